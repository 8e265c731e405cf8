/- What the functions that FnTop reaches come to: part 1. No condition. -/
import Derived.Test.YtfkefgbihlfjmaaGreatRCode
import Derived.Test.YtfkefgbihlfjmaaGreatProg
import Derived.Test.YtfkefgbihlfjmaaGreatQG
import Derived.KernelRfl
noncomputable section
set_option linter.unusedVariables false
set_option linter.unusedSimpArgs false
namespace Go.Proofs.YtfkefgbihlfjmaaGreat.V
open Go Go.Proofs.YtfkefgbihlfjmaaGreat.R Go.Proofs
set_option maxRecDepth 100000
def Ba (v lo hi:Int):Bool:=Bw v lo hi
def Bnr:Gc:=⟨[.rd tI,.rd tI,.rd tI],[none,none,none],[.rd .bool],[none]⟩
def Dm:SD:=⟨Bnr,fun x=>some (((Ba x.1 x.2.1 x.2.2.1),()),(()))⟩
def Au6 (a0 a1 a2:Int):Option ((((Bool)×Unit)×(Unit))):=
 bif decide (a0≥a1) then some ((decide (a0≤a2),()),()) else some ((false,()),())
theorem Bns (a0 a1 a2:Int):Au6 a0 a1 a2=some ((Ba a0 a1 a2,()),()):=by
 unfold Au6 Ba Bw
 by_cases h:a0≥a1
 ·have:decide (a1≤a0)=true:=by simpa using h
  simp [h,this]
 ·have:decide (a1≤a0)=false:=by simpa using h
  simp [h,this]
theorem D2:Bs Tryz.prog 95 Dm:=
 A3 (pat:=Dp) [] Hn (A5 (l:=[]) trivial) trivial Tryz.func95 (de:=fun x=>Au6 x.1 x.2.1 x.2.2.1) (fun x r h=>(Bns x.1 x.2.1 x.2.2.1).trans h) fun _=>by kernel_rfl
def Bho:Gc:=⟨[.rd tI],[none],[.rd tI],[none]⟩
def Axk (a0:Int):Option ((((Int)×Unit)×(Unit))):=
 some ((IntKind.i64.wrap (IntKind.i64.wrap (64 - a0) - 8),()),())
def Wf:SD:=⟨Bho,fun x=>Axk x.1⟩
theorem y9:Bs Tryz.prog 147 Wf:=
 A3 (pat:=Dp) [] Hn (A5 (l:=[]) trivial) trivial Tryz.func147 (de:=fun x=>Axk x.1) (fun x r h=>h) fun _=>by kernel_rfl
def S2 (p:Pg) (w:Int):Bool:=Eg p w
def Axl:Gc:=⟨[.rd yPg,.rd tI],[some 4,none],[.rd .bool],[none]⟩
def Adu:SD:=⟨Axl,fun x=>some (((S2 x.1 x.2.1),()),(()))⟩
def Wg (a0:Pg) (a1:Int):Option ((((Bool)×Unit)×(Unit))):=
 bif Ba a1 1 8 then bif Ba a0.1 1 4 then bif Ba a0.2.1 1 60000 then bif Ba a0.2.2.1 1 1000000000 then bif decide (nI (ByteArray.size a0.2.2.2.1)≤IntKind.i64.wrap (IntKind.i64.wrap (64 - a1) - 8)) then bif a0.1 != 3 then some ((true,()),()) else some ((ByteArray.toList a0.2.2.2.1==(Ad).toList,()),()) else some ((false,()),()) else some ((false,()),()) else some ((false,()),()) else some ((false,()),()) else some ((false,()),())
theorem Axm (a0:Pg) (a1:Int):Wg a0 a1=some (((S2 a0 a1),()),(())):=by
 unfold Wg S2 Eg
 have tl:ByteArray.toList (Ad)=[]:=by decide +kernel
 rw [tl]
 show (bif Bw a1 1 8 then (bif Bw a0.1 1 4 then (bif Bw a0.2.1 1 60000 then (bif Bw a0.2.2.1 1 1000000000 then _ else _) else _) else _) else _)=_
 cases hw:Bw a1 1 8 with
 | false=>rfl
 | true=>
  have k1:=Io (B6 hw).1
  have k2:=Io (B6 hw).2
  rw [Aj (n:=64 - a1) (by omega) (by omega),Aj (by omega) (by omega),show 64 - a1 - 8=56 - a1 by omega]
  cases Bw a0.1 1 4<;>cases Bw a0.2.1 1 60000<;>cases Bw a0.2.2.1 1 1000000000<;>try rfl
  show (bif decide ((ByteArray.size a0.2.2.2.1:Int)≤56 - a1) then _ else _)=_
  cases decide ((ByteArray.size a0.2.2.2.1:Int)≤56 - a1)<;>cases (a0.1 != 3)<;>rfl
theorem Axn:Bs Tryz.prog 181 Adu:=
 A3 (pat:=Dp) [] Hn (A5 (l:=[(95,Dm),(147,Wf)]) ⟨D2,y9,trivial⟩) trivial Tryz.func181 (de:=fun x=>Wg x.1 x.2.1) (fun x r h=>(Axm x.1 x.2.1).trans h) fun _=>by kernel_rfl
def A1b (v n:Int):Option Aa:=if 0≤n∧n≤1000 then some (Dj v n.toNat) else none
def Wh (v0 v6:Int) (r0:List Int):Nat:=v6.toNat + 2
def Bnt:Gc:=⟨[.rd tI,.rd tI],[none,none],[.rd .str],[none]⟩
def Yn:SD:=⟨Bnt,fun x=>(A1b x.1 x.2.1).bind fun r=>some ((r,()),(()))⟩
def A9r:Tb:=tb []
def Yo:Nat→C2×(Nat→C2):=F0 [(4,⟨[.row 5 0 5 (.int .u8)],[(0,.lf (.d tI)),(5,.lf (.row 0)),(6,.lf (.d tI))],[.row 5 (.int .u8)]⟩,[(2,⟨[.row 5 0 5 (.int .u8)],[(5,.lf (.row 0))],[.row 5 (.int .u8)]⟩)])]
def Axo:Code:=(At (Bb Tryz.f182)).getD 0 .skip
def Wi {R:Type}  (NX:((Int)×(Int)×(List Int)×Unit)→Option R) (X2:((List Int)×Unit)→Option R) (v0:Int) (v6:Int) (r0:List Int):Option R:=
 bif decide (v6≥0) then bif decide (0≤v6) then bif decide (v6 < nI r0.length) then bif decide (v6.toNat < r0.length) then NX (v0.fdiv (2 ^ min (Int.toNat 8) 64),IntKind.i64.wrap (v6 - 1),r0.set v6.toNat (IntKind.u8.wrap v0),()) else none else none else none else X2 (r0,())
def Qf:Nat→(Int)→(Int)→(List Int) →  Option ((List Int)×Unit)
 | 0,_,_,_=>none
 | m + 1,v0,v6,r0=>Wi  (fun d=>Qf m d.1 d.2.1 d.2.2.1) (fun d=>some (d)) v0 v6 r0
def Bhp (d:(Int)×(Int)×(List Int)×Unit):Option ((List Int)×Unit):=(Ac (Ac (Ac Ae))) (Qf ((Ac (Ac (Ac Ae))) Wh d)) d
def Au7 (a0 a1:Int):Option ((((Aa)×Unit)×(Unit))):=
 bif decide (a1=a1) then bif decide (0≤a1) then bif decide (a1.toNat * 1≤140737488355328) then ((fun d=>Qf (Wh d.1 d.2.1 d.2.2.1) d.1 d.2.1 d.2.2.1) (a0,IntKind.i64.wrap (a1 - 1),List.replicate a1.toNat 0,())).bind fun val=>some ((strOfNums val.1,()),()) else none else none else none
theorem Bpr:∀ (k m:Nat) (v:Int) (l t:List Int),l.length=k→k≤1000→k < m→Qf m v ((k:Int) - 1) (l++t)=some (Sx v k++t,())
 | 0,m + 1,v,l,t,hl,hk,hm=>by
  obtain rfl:l=[]:=List.length_eq_zero_iff.1 hl
  simp only [Qf,Wi]
  rw [Bd (by omega)]
  rfl
 | k + 1,m + 1,v,l,t,hl,hk,hm=>by
  have e:(((k + 1:Nat):Int) - 1)=(k:Int):=by omega
  rw [e]
  simp only [Qf,Wi]
  have hlen:(l++t).length=k + 1 + t.length:=by rw [Ef,hl]
  rw [Ag (show (k:Int)≥0 by omega),Ag (show (k:Int) < nI (l++t).length by simp only [nI,hlen]; omega),Ag (show Int.toNat (k:Int) < (l++t).length by rw [hlen]; omega),Aj (by omega) (by omega)]
  simp only [cond_true,En]
  obtain ⟨l',x,rfl⟩:∃ l' x,l=l'++[x]:=⟨l.dropLast,l.getLast (by intro h; subst h; simp at hl),(List.dropLast_concat_getLast _).symm⟩
  have hl':l'.length=k:=by simpa using hl
  have hs:((l'++[x])++t).set k (IntKind.wrap IntKind.u8 v)=l'++(v % 256::t):=by
   rw [List.append_assoc,List.set_append_right _ _ (by omega),hl']
   simp only [Nat.sub_self,List.singleton_append,List.set_cons_zero]
   rfl
  rw [hs]
  have:=Bpr k m (v / 256) l' (v % 256::t) hl' (by omega) (by omega)
  have e2:Int.fdiv v (2 ^ min (Int.toNat 8) 64)=v / 256:=by
   show Int.fdiv v 256=v / 256
   exact Int.fdiv_eq_ediv_of_nonneg _ (by omega)
  rw [e2,this]
  simp only [Sx,List.append_assoc,List.singleton_append]
theorem Bnu (a0 a1:Int) r (h:A1b a0 a1=some r):Au7 a0 a1=some ((r,()),(())):=by
 unfold A1b at h
 split at h
 ·rename_i hc
  cases h
  obtain ⟨n,rfl⟩:∃ n:Nat,a1=(n:Int):=⟨a1.toNat,by omega⟩
  unfold Au7
  rw [Ag rfl,Ag hc.1,Ag (show Int.toNat (n:Int) * 1≤140737488355328 by omega),Aj (by omega) (by omega)]
  have hL:=Bpr n (Wh a0 ((n:Int) - 1) (List.replicate n 0)) a0 (List.replicate n 0) [] (by simp) (by omega) (by simp only [Wh]; omega)
  rw [List.append_nil,List.append_nil] at hL
  exact bi_ hL rfl
 ·cases h
def Axp {R:Type} (k:Kt R):=(I3 (Yo 4) (.exit 0) 2 k)
def Bf0 {R:Type}:Lt R Yo:=(Ea (pat:=Yo) 4 (fun d k=>(Bhp d).bind (Axp k)) Hn)
theorem A9s:A2 Tryz.prog A9r:=A5 trivial
theorem Bhq {R:Type}:A4 Tryz.prog R 24 0 Yo Bf0 Axo:=
 B8 (cfg:=⟨A9r,0,24,Yo⟩) 4 [] (fun NX X d=>(Ac (Ac (Ac Ae))) (Wi  NX X) d) (fun m d=>(Ac (Ac (Ac Ae))) (Qf m) d) (fun d=>(Ac (Ac (Ac Ae))) Wh d) Axp A9s trivial (fun f NX d=>by simp only [u4,Ac,Ae]; unfold Wi; simp only [nb])
theorem Ajz:Bs Tryz.prog 182 Yn:=
 A3 (pat:=Yo) [Axo] Bf0 A9s ⟨Bhq,trivial⟩ Tryz.func182 (de:=fun x=>Au7 x.1 x.2.1) (fun x r h=>F1 (Bnu x.1 x.2.1) h) fun _=>by kernel_rfl
def Axq:Gc:=⟨[.rd .str,.rd (.int .i64)],[none,none],[.rd .str],[none]⟩
def Ro:SD:=⟨Axq,fun x=>(Afq x.1 x.2.1).bind fun r=>some ((r,()),())⟩
theorem Adv:Qx Tryz.prog 183∧Amx Tryz.prog 183 Ro.sg Ro.den:=⟨⟨_,Tryz.func183,by kernel_rfl,by kernel_rfl⟩,Btg⟩
def Yp (s:Aa) (w:Int):Option Aa:=if s.size < 4611686018427387904 then some (Axb s w) else none
def Tv (v0:Aa) (v1 v5 v6:Int):Nat:=(nI v0.size - v6).toNat + 1
def Bk2:Gc:=⟨[.rd .str,.rd tI],[none,none],[.rd .str],[none]⟩
def A3t:SD:=⟨Bk2,fun x=>(Yp x.1 x.2.1).bind fun r=>some ((r,()),(()))⟩
def A3u:Tb:=tb [(95,Dm),(182,Yn)]
def Vt:Nat→C2×(Nat→C2):=F0 [(6,⟨[],[(0,.lf (.d .str)),(1,.lf (.d tI)),(5,.lf (.d (.int .u64))),(6,.lf (.d tI))],[]⟩,[(2,⟨[],[(1,.lf (.d tI)),(5,.lf (.d (.int .u64)))],[]⟩)])]
def Asw:Code:=(At (Bb Tryz.f184)).getD 0 .skip
def Tw {R:Type}  (NX:((Aa)×(Int)×(Int)×(Int)×Unit)→Option R) (X2:((Int)×(Int)×Unit)→Option R) (v0:Aa) (v1:Int) (v5:Int) (v6:Int):Option R:=
 bif decide (v6 < nI v0.size) then bif decide (0≤v6) then bif decide (v6 < nI v0.size) then NX (v0,v1,IntKind.u64.wrap (IntKind.u64.wrap (nI (BitVec.ofInt 64 v5 ^^^ BitVec.ofInt 64 (IntKind.u64.wrap (Ap v0 v6))).toNat) * 1099511628211),IntKind.i64.wrap (v6 + 1),()) else none else none else X2 (v1,v5,())
def Jg:Nat→(Aa)→(Int)→(Int)→(Int) →  Option ((Int)×(Int)×Unit)
 | 0,_,_,_,_=>none
 | m + 1,v0,v1,v5,v6=>Tw  (fun d=>Jg m d.1 d.2.1 d.2.2.1 d.2.2.2.1) (fun d=>some (d)) v0 v1 v5 v6
def Bcs (d:(Aa)×(Int)×(Int)×(Int)×Unit):Option ((Int)×(Int)×Unit):=(u4 Ae) (Jg ((u4 Ae) Tv d)) d
def Ans (a0:Aa) (a1:Int):Option ((((Aa)×Unit)×(Unit))):=
 bif !Ba a1 1 8 then some ((Ad,()),()) else ((fun d=>Jg (Tv d.1 d.2.1 d.2.2.1 d.2.2.2.1) d.1 d.2.1 d.2.2.1 d.2.2.2.1) (a0,a1,14695981039346656037,0,())).bind fun val=>bif decide (0≤IntKind.i64.wrap (8 - val.1)) then bif decide (IntKind.i64.wrap (8 - val.1)≤nI (Dj (IntKind.i64.wrap val.2.1) (Int.toNat 8)).size) then some ((Ah (Dj (IntKind.i64.wrap val.2.1) (Int.toNat 8)) (IntKind.i64.wrap (8 - val.1)) (nI (Dj (IntKind.i64.wrap val.2.1) (Int.toNat 8)).size),()),()) else none else none
theorem Bk3 (a0:Aa) (a1:Int) r (h:Yp a0 a1=some r):Ans a0 a1=some ((r,()),(())):=by
 unfold Yp at h
 split at h
 rotate_left
 ·cases h
 rename_i hsz
 cases h
 unfold Ans Axb
 generalize hC:(14695981039346656037:Int)=C
 have h0:U64 C:=by rw [← hC]; exact ⟨by decide,by decide⟩
 show (bif !Bw a1 1 8 then _ else _)=_
 cases hw:Bw a1 1 8 with
 | false=>rfl
 | true=>
  have k1:=Io (B6 hw).1
  have k2:=Io (B6 hw).2
  ·simp only [Bool.not_true,cond_false,cond_true]
   have hL:=Aq9 a0.size (fun _ _=>True) (fun i h=>Anh h (Ap a0 i)) (g:=fun m i h=>Jg m a0 a1 h i) (ok:=fun h=>(a1,h,())) (fun m i h hi _=>by
    show Jg (m + 1) a0 a1 h i=_
    simp only [Jg,Tw]
    have c1:(i:Int) < nI a0.size:=by simp only [nI]; omega
    rw [Ag c1,G9,wI (show i < 4611686018427387904 by omega)]
    rfl) (fun m h _=>by
    show Jg (m + 1) a0 a1 h a0.size=_
    simp only [Jg,Tw]
    rw [Bd (show ¬ ((a0.size:Int) < nI a0.size) by simp only [nI]; omega)]
    rfl) (fun _ _ _ _=>trivial) a0.size (Tv a0 a1 C 0) 0 C (by omega) (by simp only [Tv,nI]; omega) trivial
   rw [show ((0:Nat):Int)=0 from rfl] at hL
   refine bi_ hL ?_
   have e1:IntKind.i64.wrap (8 - a1)=8 - a1:=Aj (by omega) (by omega)
   have hh:=Bo3 a0 a0.size 0 h0
   have eH:iter (fun i h=>Anh h (Ap a0 i)) a0.size 0 C=A0t a0 a0.size 0 C:=rfl
   rw [eH]
   generalize A0t a0 a0.size 0 C=H at hh ⊢
   show (bif decide (0≤IntKind.i64.wrap (8 - a1)) then (bif decide (IntKind.i64.wrap (8 - a1)≤nI (ByteArray.size (Dj (IntKind.i64.wrap H) (Int.toNat 8)))) then some ((Ah (Dj (IntKind.i64.wrap H) (Int.toNat 8)) (IntKind.i64.wrap (8 - a1)) (nI (ByteArray.size (Dj (IntKind.i64.wrap H) (Int.toNat 8)))),()),()) else none) else none)=some ((Dj H a1.toNat,()),())
   rw [e1,Bvf hh k1 k2,Ag (show 0≤8 - a1 by omega),Ag (show 8 - a1≤nI (ByteArray.size (Dj (IntKind.i64.wrap H) (Int.toNat 8))) by rw [L4]; simp [nI]; omega)]
   rfl
def Asx {R:Type} (k:Kt R):=(I3 (Vt 6) (.exit 0) 2 k)
def A9t {R:Type}:Lt R Vt:=(Ea (pat:=Vt) 6 (fun d k=>(Bcs d).bind (Asx k)) Hn)
theorem A3v:A2 Tryz.prog A3u:=A5 ⟨D2,Ajz,trivial⟩
theorem Bct {R:Type}:A4 Tryz.prog R 29 0 Vt A9t Asw:=
 B8 (cfg:=⟨A3u,0,29,Vt⟩) 6 [] (fun NX X d=>(u4 Ae) (Tw  NX X) d) (fun m d=>(u4 Ae) (Jg m) d) (fun d=>(u4 Ae) Tv d) Asx A3v trivial (fun f NX d=>by simp only [u4,Ac,Ae]; unfold Tw; simp only [nb])
theorem Bk4:Bs Tryz.prog 184 A3t:=
 A3 (pat:=Vt) [Asw] A9t A3v ⟨Bct,trivial⟩ Tryz.func184 (de:=fun x=>Ans x.1 x.2.1) (fun x r h=>F1 (Bk3 x.1 x.2.1) h) fun _=>by kernel_rfl
def Dt (p:Pg) (w:Int):Aa:=Cc p w
def A1c:Gc:=⟨[.rd yPg,.rd tI],[some 4,none],[.rd .str],[none]⟩
def Lh:SD:=⟨A1c,fun x=>some (((Dt x.1 x.2.1),()),(()))⟩
def Yq (a0:Pg) (a1:Int):Option ((((Aa)×Unit)×(Unit))):=
 bif !S2 a0 a1 then some ((Ad,()),()) else bif decide ((Dj a0.1 (Int.toNat 1)++Dj a0.2.1 (Int.toNat 2)++Dj a0.2.2.1 (Int.toNat 4)++Dj (nI (ByteArray.size a0.2.2.2.1)) (Int.toNat 1)).size + ByteArray.size a0.2.2.2.1≤9223372036854775807) then ((Afq (ByteArray.mk #[0]) (IntKind.i64.wrap (IntKind.i64.wrap (64 - a1) - nI (Dj a0.1 (Int.toNat 1)++Dj a0.2.1 (Int.toNat 2)++Dj a0.2.2.1 (Int.toNat 4)++Dj (nI (ByteArray.size a0.2.2.2.1)) (Int.toNat 1)++a0.2.2.2.1).size))).bind fun val=>some ((val,()),())).bind fun val=>bif decide ((Dj a0.1 (Int.toNat 1)++Dj a0.2.1 (Int.toNat 2)++Dj a0.2.2.1 (Int.toNat 4)++Dj (nI (ByteArray.size a0.2.2.2.1)) (Int.toNat 1)++a0.2.2.2.1).size + ByteArray.size val.1.1≤9223372036854775807) then ((Yp (Dj a0.1 (Int.toNat 1)++Dj a0.2.1 (Int.toNat 2)++Dj a0.2.2.1 (Int.toNat 4)++Dj (nI (ByteArray.size a0.2.2.2.1)) (Int.toNat 1)++a0.2.2.2.1++val.1.1) a1).bind fun val=>some ((val,()),())).bind fun val_1=>bif decide (ByteArray.size val_1.1.1 + (Dj a0.1 (Int.toNat 1)++Dj a0.2.1 (Int.toNat 2)++Dj a0.2.2.1 (Int.toNat 4)++Dj (nI (ByteArray.size a0.2.2.2.1)) (Int.toNat 1)++a0.2.2.2.1++val.1.1).size≤9223372036854775807) then some ((val_1.1.1++(Dj a0.1 (Int.toNat 1)++Dj a0.2.1 (Int.toNat 2)++Dj a0.2.2.1 (Int.toNat 4)++Dj (nI (ByteArray.size a0.2.2.2.1)) (Int.toNat 1)++a0.2.2.2.1++val.1.1),()),()) else none else none else none
theorem A1d (a0:Pg) (a1:Int):Yq a0 a1=some (((Dt a0 a1),()),(())):=by
 unfold Yq Dt Cc
 show (bif !Eg a0 a1 then _ else _)=_
 cases hp:Eg a0 a1 with
 | false=>rfl
 | true=>
  obtain ⟨hw,k1,k2,kp⟩:=Aau hp
  simp only [Bool.not_true,cond_false,cond_true]
  have hb:J5 a0 a1=Dj a0.1 1++Dj a0.2.1 2++Dj a0.2.2.1 4++Dj (nI a0.2.2.2.1.size) 1++a0.2.2.2.1++strOfNums (List.replicate (56 - a1 - a0.2.2.2.1.size).toNat 0):=rfl
  have hs4:(Dj a0.1 1++Dj a0.2.1 2++Dj a0.2.2.1 4++Dj (nI a0.2.2.2.1.size) 1).size=8:=by simp only [ByteArray.size_append,L4]
  have hs5:(Dj a0.1 1++Dj a0.2.1 2++Dj a0.2.2.1 4++Dj (nI a0.2.2.2.1.size) 1++a0.2.2.2.1).size=8 + a0.2.2.2.1.size:=by rw [ByteArray.size_append,hs4]
  show (bif decide ((Dj a0.1 1++Dj a0.2.1 2++Dj a0.2.2.1 4++Dj (nI a0.2.2.2.1.size) 1).size + a0.2.2.2.1.size≤9223372036854775807) then Option.bind (Option.bind (Afq (ByteArray.mk #[0]) (IntKind.i64.wrap (IntKind.i64.wrap (64 - a1) - nI (Dj a0.1 1++Dj a0.2.1 2++Dj a0.2.2.1 4++Dj (nI a0.2.2.2.1.size) 1++a0.2.2.2.1).size))) _) _ else none)=_
  generalize hB:Dj a0.1 1++Dj a0.2.1 2++Dj a0.2.2.1 4++Dj (nI a0.2.2.2.1.size) 1++a0.2.2.2.1=B at *
  rw [hs4,Ag (by omega),Aj (n:=64 - a1) (by omega) (by omega),hs5,Aj (by simp only [nI]; omega) (by simp only [nI]; omega)]
  have hr:Afq (ByteArray.mk #[0]) (64 - a1 - nI (8 + a0.2.2.2.1.size))=some (strOfNums (List.replicate (56 - a1 - a0.2.2.2.1.size).toNat 0)):=by
   have:=By6 (56 - a1 - a0.2.2.2.1.size).toNat (by omega)
   rw [show ((56 - a1 - a0.2.2.2.1.size).toNat:Int)=64 - a1 - nI (8 + a0.2.2.2.1.size) by simp only [nI]; omega] at this
   exact this
  have hz:(strOfNums (List.replicate (56 - a1 - a0.2.2.2.1.size).toNat 0)).size=(56 - a1 - a0.2.2.2.1.size).toNat:=by rw [D0,List.length_replicate]
  generalize strOfNums (List.replicate (56 - a1 - a0.2.2.2.1.size).toNat 0)=Z at *
  refine bi_ (bi_ hr rfl) ?_
  have hbs:(J5 a0 a1).size≤64:=by rw [hb,ByteArray.size_append,hs5,hz]; omega
  dsimp only
  have hB':Dj a0.1 (Int.toNat 1)++Dj a0.2.1 (Int.toNat 2)++Dj a0.2.2.1 (Int.toNat 4)++Dj (nI a0.2.2.2.1.size) (Int.toNat 1)++a0.2.2.2.1=B:=hB
  rw [hB']
  show (bif decide (ByteArray.size B + ByteArray.size Z≤9223372036854775807) then Option.bind (Option.bind (Yp (B++Z) a1) _) _ else none)=_
  have hm:Yp (B++Z) a1=some (Axb (J5 a0 a1) a1):=by
   rw [← hb]
   exact if_pos (by omega)
  rw [hs5,hz,Ag (by omega)]
  refine bi_ (bi_ hm rfl) ?_
  show (bif decide (ByteArray.size (Axb (J5 a0 a1) a1) + ByteArray.size (B++Z)≤9223372036854775807) then some ((Axb (J5 a0 a1) a1++(B++Z),()),()) else none)=_
  rw [← hb,Agu hw,Ag (by omega)]
  rfl
theorem O7:Bs Tryz.prog 103 Lh:=
 A3 (pat:=Dp) [] Hn (A5 (l:=[(181,Adu),(182,Yn),(183,Ro),(184,A3t)]) ⟨Axn,Ajz,Adv,Bk4,trivial⟩) trivial Tryz.func103 (de:=fun x=>Yq x.1 x.2.1) (fun x r h=>(A1d x.1 x.2.1).trans h) fun _=>by kernel_rfl
def Qg (s:Aa):Option Int:=if s.size≤7 then some (Ang s) else none
def Tx (v0:Aa) (v3 v4:Int):Nat:=(nI v0.size - v4).toNat + 1
def Bk5:Gc:=⟨[.rd .str],[none],[.rd tI],[none]⟩
def Ant:SD:=⟨Bk5,fun x=>(Qg x.1).bind fun r=>some ((r,()),(()))⟩
def A3w:Tb:=tb []
def Vu:Nat→C2×(Nat→C2):=F0 [(4,⟨[],[(0,.lf (.d .str)),(3,.lf (.d tI)),(4,.lf (.d tI))],[]⟩,[(2,⟨[],[(3,.lf (.d tI))],[]⟩)])]
def Asy:Code:=(At (Bb Tryz.f148)).getD 0 .skip
def Tz {R:Type}  (NX:((Aa)×(Int)×(Int)×Unit)→Option R) (X2:((Int)×Unit)→Option R) (v0:Aa) (v3:Int) (v4:Int):Option R:=
 bif decide (v4 < nI v0.size) then bif decide (0≤v4) then bif decide (v4 < nI v0.size) then NX (v0,IntKind.i64.wrap (nI (BitVec.ofInt 64 (IntKind.i64.wrap (v3 * 2 ^ min (Int.toNat 8) 64)) ||| BitVec.ofInt 64 (IntKind.i64.wrap (Ap v0 v4))).toNat),IntKind.i64.wrap (v4 + 1),()) else none else none else X2 (v3,())
def Oe:Nat→(Aa)→(Int)→(Int) →  Option ((Int)×Unit)
 | 0,_,_,_=>none
 | m + 1,v0,v3,v4=>Tz  (fun d=>Oe m d.1 d.2.1 d.2.2.1) (fun d=>some (d)) v0 v3 v4
def Bcu (d:(Aa)×(Int)×(Int)×Unit):Option ((Int)×Unit):=(Ac (Ac (Ac Ae))) (Oe ((Ac (Ac (Ac Ae))) Tx d)) d
def Anu (a0:Aa):Option ((((Int)×Unit)×(Unit))):=
 ((fun d=>Oe (Tx d.1 d.2.1 d.2.2.1) d.1 d.2.1 d.2.2.1) (a0,0,0,())).bind fun val=>some (val,())
theorem Bk6 (s:Aa) (hs:s.size≤7):∀ (k m i:Nat) (v:Int),i + k=s.size→k < m→0≤v→v < 256 ^ i→Oe m s v i=some (Bju s k i v,())
 | 0,m + 1,i,v,hi,hm,h0,h1=>by
  simp only [Oe,Tz]
  rw [Bd (show ¬ ((i:Int) < nI s.size) by simp only [nI]; omega)]
  rfl
 | k + 1,m + 1,i,v,hi,hm,h0,h1=>by
  obtain ⟨hb,hs',e⟩:=Bve s i hi (by omega) h0 h1
  simp only [Oe,Tz]
  have c1:(i:Int) < nI s.size:=by simp only [nI]; omega
  rw [Ag c1,Ag (show (0:Int)≤(i:Int) by omega),wI (show i < 4611686018427387904 by omega),e]
  exact Bk6 s hs k m (i + 1) _ (by omega) (by omega) hb hs'
theorem Bk7 (a0:Aa) r (h:Qg a0=some r):Anu a0=some ((r,()),(())):=by
 unfold Qg at h
 split at h
 ·rename_i hc
  cases h
  unfold Anu
  have hL:=Bk6 a0 hc a0.size (Tx a0 0 0) 0 0 (by omega) (by simp only [Tx,nI]; omega) (by omega) (by decide)
  exact bi_ hL rfl
 ·cases h
def Asz {R:Type} (k:Kt R):=(I3 (Vu 4) (.exit 0) 2 k)
def A9u {R:Type}:Lt R Vu:=(Ea (pat:=Vu) 4 (fun d k=>(Bcu d).bind (Asz k)) Hn)
theorem A3x:A2 Tryz.prog A3w:=A5 trivial
theorem Bcv {R:Type}:A4 Tryz.prog R 19 0 Vu A9u Asy:=
 B8 (cfg:=⟨A3w,0,19,Vu⟩) 4 [] (fun NX X d=>(Ac (Ac (Ac Ae))) (Tz  NX X) d) (fun m d=>(Ac (Ac (Ac Ae))) (Oe m) d) (fun d=>(Ac (Ac (Ac Ae))) Tx d) Asz A3x trivial (fun f NX d=>by simp only [u4,Ac,Ae]; unfold Tz; simp only [nb])
theorem A3y:Bs Tryz.prog 148 Ant:=
 A3 (pat:=Vu) [Asy] A9u A3x ⟨Bcv,trivial⟩ Tryz.func148 (de:=fun x=>Anu x.1) (fun x r h=>F1 (Bk7 x.1) h) fun _=>by kernel_rfl
def Ai (s:Aa) (w:Int):Pg×Bool:=Av s w
def A1e:Gc:=⟨[.rd .str,.rd tI],[none,none],[.rd yPg,.rd .bool],[some 4,none]⟩
def O8:SD:=⟨A1e,fun x=>some (((Ai x.1 x.2.1).1,(Ai x.1 x.2.1).2,()),(()))⟩
def Yr (a0:Aa) (a1:Int):Option (((Pg×(Bool)×Unit)×(Unit))):=
 bif nI a0.size != 64 then some (((0,0,0,Ad,()),false,()),()) else bif !Ba a1 1 8 then some (((0,0,0,Ad,()),false,()),()) else bif decide (0≤a1) then bif decide (a1≤nI a0.size) then bif decide (7 < nI (Ah a0 a1 (nI a0.size)).size) then bif decide (IntKind.i64.wrap (Ap (Ah a0 a1 (nI a0.size)) 7) > IntKind.i64.wrap (IntKind.i64.wrap (64 - a1) - 8)) then some (((0,0,0,Ad,()),false,()),()) else bif decide (0 < nI (Ah a0 a1 (nI a0.size)).size) then bif decide (3≤nI (Ah a0 a1 (nI a0.size)).size) then ((Qg (Ah (Ah a0 a1 (nI a0.size)) 1 3)).bind fun val=>some ((val,()),())).bind fun val=>bif decide (7≤nI (Ah a0 a1 (nI a0.size)).size) then ((Qg (Ah (Ah a0 a1 (nI a0.size)) 3 7)).bind fun val=>some ((val,()),())).bind fun val_1=>bif decide (8≤IntKind.i64.wrap (8 + IntKind.i64.wrap (Ap (Ah a0 a1 (nI a0.size)) 7))) then bif decide (IntKind.i64.wrap (8 + IntKind.i64.wrap (Ap (Ah a0 a1 (nI a0.size)) 7))≤nI (Ah a0 a1 (nI a0.size)).size) then bif !(Dt (IntKind.i64.wrap (Ap (Ah a0 a1 (nI a0.size)) 0),val.1.1,val_1.1.1,Ah (Ah a0 a1 (nI a0.size)) 8 (IntKind.i64.wrap (8 + IntKind.i64.wrap (Ap (Ah a0 a1 (nI a0.size)) 7))),()) a1).toList==a0.toList then some (((0,0,0,Ad,()),false,()),()) else some (((IntKind.i64.wrap (Ap (Ah a0 a1 (nI a0.size)) 0),val.1.1,val_1.1.1,Ah (Ah a0 a1 (nI a0.size)) 8 (IntKind.i64.wrap (8 + IntKind.i64.wrap (Ap (Ah a0 a1 (nI a0.size)) 7))),()),true,()),()) else none else none else none else none else none else none else none else none
theorem A1f (a0:Aa) (a1:Int):Yr a0 a1=some (((Ai a0 a1).1,(Ai a0 a1).2,()),(())):=by
 unfold Yr Ai Av
 show (bif nI a0.size != 64 then _ else (bif !Bw a1 1 8 then _ else _))=_
 cases hz:nI a0.size != 64 with
 | true=>rfl
 | false=>
   cases hw:Bw a1 1 8 with
   | false=>rfl
   | true=>
    have k1:=(Cv hw).1
    have k2:=(Cv hw).2
    have hs:a0.size=64:=by
     by_cases q:nI a0.size=64
     ·simp only [nI] at q; omega
     ·rw [(bne_iff_ne).2 q] at hz; cases hz
    have hb:(Ah a0 a1 (nI a0.size)).size=(64 - a1).toNat:=by rw [C6 (by omega) (by simp only [nI]; omega) (by simp [nI])]; simp only [nI,hs]; omega
    simp only [Bool.not_true,cond_false,cond_true]
    rw [Ag (show (0:Int)≤a1 by omega),Ag (show a1≤nI a0.size by simp only [nI]; omega)]
    unfold Bmw
    generalize Ah a0 a1 (nI a0.size)=b at *
    obtain ⟨b0,b1⟩:=J7 b 7
    obtain ⟨c0,c1⟩:=J7 b 0
    have hB:nI b.size=64 - a1:=by simp only [nI]; omega
    rw [hB,Ag (show (7:Int) < 64 - a1 by omega),Ag (show (0:Int) < 64 - a1 by omega),Ag (show (3:Int)≤64 - a1 by omega),Ag (show (7:Int)≤64 - a1 by omega),Aj (n:=Ap b 7) (by omega) (by omega),Aj (n:=Ap b 0) (by omega) (by omega),Aj (n:=64 - a1) (by omega) (by omega),Aj (n:=64 - a1 - 8) (by omega) (by omega),Aj (n:=8 + Ap b 7) (by omega) (by omega),show 64 - a1 - 8=56 - a1 by omega]
    by_cases q:Ap b 7 > 56 - a1
    ·rw [Ag q]; rfl
    ·rw [Bd q]
     have n1:Qg (Ah b 1 3)=some (Ang (Ah b 1 3)):=if_pos (by rw [C6 (by omega) (by omega) (by omega)]; decide)
     have n2:Qg (Ah b 3 7)=some (Ang (Ah b 3 7)):=if_pos (by rw [C6 (by omega) (by omega) (by omega)]; decide)
     simp only [n1,n2,Option.bind_some,cond_true,cond_false]
     rw [Ag (show 8≤8 + Ap b 7 by omega),Ag (show 8 + Ap b 7≤64 - a1 by omega)]
     show (bif !(ByteArray.toList (Cc (Bmv b) a1)==ByteArray.toList a0) then _ else _)=_
     cases (ByteArray.toList (Cc (Bmv b) a1)==ByteArray.toList a0)<;>rfl
theorem S3:Bs Tryz.prog 53 O8:=
 A3 (pat:=Dp) [] Hn (A5 (l:=[(95,Dm),(103,Lh),(147,Wf),(148,Ant)]) ⟨D2,O7,y9,A3y,trivial⟩) trivial Tryz.func53 (de:=fun x=>Yr x.1 x.2.1) (fun x r h=>(A1f x.1 x.2.1).trans h) fun _=>by kernel_rfl
def F4 (d:Dk):Bool:=Ar d
def Axr:Gc:=⟨[.rd yDk],[some 2],[.rd .bool],[none]⟩
def Hz:SD:=⟨Axr,fun x=>some (((F4 x.1),()),(()))⟩
def Wj:Tb:=tb [(95,Dm)]
def Cy:Nat→C2×(Nat→C2):=F0 [(5,⟨[.sl 19 0 .str,.boxSl 1 0 .str,.boxSl 1 1 Em],[(1,.lf (.ptr 0 0)),(19,.lf (.d (.sl .str))),(20,.lf (.d tI)),(21,.lf (.d tI))],[.box 26 [.d (.sl .str),.d (.sl Em)]]⟩,[(2,⟨[.boxSl 1 0 .str,.boxSl 1 1 Em],[(1,.lf (.ptr 0 0))],[.box 26 [.d (.sl .str),.d (.sl Em)]]⟩),(1,⟨[],[(2,.lf (.d .bool))],[]⟩)]),(11,⟨[.sl 30 0 Em,.boxSl 1 0 .str,.boxSl 1 1 Em],[(1,.lf (.ptr 0 0)),(30,.lf (.d (.sl Em))),(31,.lf (.d tI)),(32,.lf (.d tI))],[.box 26 [.d (.sl .str),.d (.sl Em)]]⟩,[(4,p0),(1,⟨[],[(2,.lf (.d .bool))],[]⟩)])]
def k7:Code:=(At (Bb Tryz.f94)).getD 0 .skip
def Zx:Code:=(At (Bb Tryz.f94)).getD 1 .skip
def Fg (v30:List Wr) (v31 v32:Int) (b0_0:List Aa) (b0_1:List Wr):Nat:=(v31 - v32).toNat + 1
def Jr {R:Type}  (NX:((List Wr)×(Int)×(Int)×(List Aa)×(List Wr)×Unit)→Option R) (X4:(Unit)→Option R) (X1:((Bool)×Unit)→Option R) (v30:List Wr) (v31:Int) (v32:Int) (b0_0:List Aa) (b0_1:List Wr):Option R:=
 bif decide (v32 < v31) then bif decide (0≤v32) then bif decide (v32 < nI v30.length) then bif !Ba (v30.getD v32.toNat (0,Ad,())).1 0 (IntKind.i64.wrap (nI b0_0.length - 1)) then X1 (false,()) else bif nI (ByteArray.size (v30.getD v32.toNat (0,Ad,())).2.1) != 64 then X1 (false,()) else NX (v30,v31,IntKind.i64.wrap (v32 + 1),b0_0,b0_1,()) else none else none else X4 PUnit.unit
def Cj:Nat→(List Wr)→(Int)→(Int)→(List Aa)→(List Wr) →  Option ((Unit) ⊕ ((Bool)×Unit))
 | 0,_,_,_,_,_=>none
 | m + 1,v30,v31,v32,b0_0,b0_1=>Jr  (fun d=>Cj m d.1 d.2.1 d.2.2.1 d.2.2.2.1 d.2.2.2.2.1) (fun d=>some (.inl (d))) (fun d=>some (.inr (d))) v30 v31 v32 b0_0 b0_1
def Anv (d:(List Wr)×(Int)×(Int)×(List Aa)×(List Wr)×Unit):Option ((Unit) ⊕ ((Bool)×Unit)):=(u4 (Ac Ae)) (Cj ((u4 (Ac Ae)) Fg d)) d
def Gf (v19:List Aa) (v20 v21:Int) (b0_0:List Aa) (b0_1:List Wr):Nat:=(v20 - v21).toNat + 1
def Kv {R:Type}  (NX:((List Aa)×(Int)×(Int)×(List Aa)×(List Wr)×Unit)→Option R) (X2:Dk→Option R) (X1:((Bool)×Unit)→Option R) (v19:List Aa) (v20:Int) (v21:Int) (b0_0:List Aa) (b0_1:List Wr):Option R:=
 bif decide (v21 < v20) then bif decide (0≤v21) then bif decide (v21 < nI v19.length) then bif nI (ByteArray.size (v19.getD v21.toNat (Ad))) != 64 then X1 (false,()) else NX (v19,v20,IntKind.i64.wrap (v21 + 1),b0_0,b0_1,()) else none else none else X2 (b0_0,b0_1,())
def Cr:Nat→(List Aa)→(Int)→(Int)→(List Aa)→(List Wr) →  Option (Dk ⊕ ((Bool)×Unit))
 | 0,_,_,_,_,_=>none
 | m + 1,v19,v20,v21,b0_0,b0_1=>Kv  (fun d=>Cr m d.1 d.2.1 d.2.2.1 d.2.2.2.1 d.2.2.2.2.1) (fun d=>some (.inl (d))) (fun d=>some (.inr (d))) v19 v20 v21 b0_0 b0_1
def Art (d:(List Aa)×(Int)×(Int)×(List Aa)×(List Wr)×Unit):Option (Dk ⊕ ((Bool)×Unit)):=(u4 (Ac Ae)) (Cr ((u4 (Ac Ae)) Gf d)) d
def Wk (a0:Dk):Option ((((Bool)×Unit)×(Unit))):=
 bif !Ba (nI (List.length a0.1)) 8 200 then some ((false,()),()) else bif decide (nI (List.length a0.2.1) > 300) then some ((false,()),()) else ((fun d=>Cr (Gf d.1 d.2.1 d.2.2.1 d.2.2.2.1 d.2.2.2.2.1) d.1 d.2.1 d.2.2.1 d.2.2.2.1 d.2.2.2.2.1) (a0.1,nI (List.length a0.1),0,a0)).bind fun val=>Bx (fun d=>((fun d=>Cj (Fg d.1 d.2.1 d.2.2.1 d.2.2.2.1 d.2.2.2.2.1) d.1 d.2.1 d.2.2.1 d.2.2.2.1 d.2.2.2.2.1) (d.2.1,nI (List.length d.2.1),0,d)).bind fun val=>Bx (fun d=>some ((true,()),())) (fun d=>some (d,())) val) (fun d=>some (d,())) val
theorem Axs (a0:Dk):Wk a0=some ((F4 a0,()),()):=by
 unfold Wk F4 Ar
 have c1:decide (nI a0.2.1.length > 300)=!decide (a0.2.1.length≤300):=Ani _ 300
 rw [c1]
 show (bif !Bw (a0.1.length:Int) 8 200 then _ else _)=_
 cases hin:Bw (a0.1.length:Int) 8 200 with
 | false=>rfl
 | true=>
  have hlen:a0.1.length≤200:=by have:=Io (B6 hin).2; omega
  by_cases hp:a0.2.1.length≤300
  ·rw [Ag hp]
   have hL:=O1 (n:=a0.1.length) (fun i=>decide ((a0.1.getD i z0).size=64)) (g:=fun m i=>Cr m a0.1 (nI a0.1.length) i a0.1 a0.2.1) (ok:=.inl (a0.1,a0.2.1,())) (bad:=.inr (false,())) (fun m i hi=>by
    show Cr (m + 1) a0.1 (nI a0.1.length) i a0.1 a0.2.1=_
    simp only [Cr,Kv]
    have g1:(nI (ByteArray.size (List.getD a0.1 i (Ad))) != 64)=!decide ((a0.1.getD i z0).size=64):=Bqs _ 64
    rw [Xv hi,G9,wI (show i < 4611686018427387904 by omega),En,g1]
    cases decide ((a0.1.getD i z0).size=64)<;>rfl) (fun m=>by
    show Cr (m + 1) a0.1 (nI a0.1.length) (a0.1.length:Int) a0.1 a0.2.1=_
    simp only [Cr,Kv]
    rw [Od]
    rfl) (Gf a0.1 (nI a0.1.length) 0 a0.1 a0.2.1) 0 (by omega) (by simp [Gf,nI])
   have hL':Cr (Gf a0.1 (nI a0.1.length) 0 a0.1 a0.2.1) a0.1 (nI a0.1.length) 0 a0.1 a0.2.1=_:=hL
   have hM:=O1 (n:=a0.2.1.length) (fun i=>Anf a0.1.length (a0.2.1.getD i zW)) (g:=fun m i=>Cj m a0.2.1 (nI a0.2.1.length) i a0.1 a0.2.1) (ok:=.inl ()) (bad:=.inr (false,())) (fun m i hi=>by
    show Cj (m + 1) a0.2.1 (nI a0.2.1.length) i a0.1 a0.2.1=_
    simp only [Cj,Jr]
    have g1:(nI (ByteArray.size (List.getD a0.2.1 i (0,Ad,())).2.1) != 64)=!decide ((a0.2.1.getD i zW).2.1.size=64):=Bqs _ 64
    have hw:IntKind.i64.wrap (nI a0.1.length - 1)=(a0.1.length:Int) - 1:=Aj (by simp only [nI]; omega) (by simp only [nI]; omega)
    rw [Xv hi,G9,wI (show i < 4611686018427387904 by omega),En,g1,hw]
    have g2:Ba (List.getD a0.2.1 i (0,Ad,())).1 0 ((a0.1.length:Int) - 1)=(decide (0≤(a0.2.1.getD i zW).1)&&decide ((a0.2.1.getD i zW).1 < (a0.1.length:Int))):=by
     show (decide (0≤(a0.2.1.getD i zW).1)&&decide ((a0.2.1.getD i zW).1≤(a0.1.length:Int) - 1))=_
     congr 1
     exact decide_eq_decide.2 (by omega)
    rw [g2]
    unfold Anf
    cases decide (0≤(a0.2.1.getD i zW).1)<;>cases decide ((a0.2.1.getD i zW).1 < (a0.1.length:Int))<;>cases decide ((a0.2.1.getD i zW).2.1.size=64)<;>rfl) (fun m=>by
    show Cj (m + 1) a0.2.1 (nI a0.2.1.length) (a0.2.1.length:Int) a0.1 a0.2.1=_
    simp only [Cj,Jr]
    rw [Od]
    rfl) (Fg a0.2.1 (nI a0.2.1.length) 0 a0.1 a0.2.1) 0 (by omega) (by simp [Fg,nI])
   have hM':Cj (Fg a0.2.1 (nI a0.2.1.length) 0 a0.1 a0.2.1) a0.2.1 (nI a0.2.1.length) 0 a0.1 a0.2.1=_:=hM
   show (Cr (Gf a0.1 (nI a0.1.length) 0 a0.1 a0.2.1) a0.1 (nI a0.1.length) 0 a0.1 a0.2.1).bind _=_
   rw [hL']
   rw [Nat.sub_zero] at hM' ⊢
   cases (List.range' 0 a0.1.length).all (fun i=>decide ((a0.1.getD i z0).size=64)) with
   | false=>rfl
   | true=>
    show (Cj (Fg a0.2.1 (nI a0.2.1.length) 0 a0.1 a0.2.1) a0.2.1 (nI a0.2.1.length) 0 a0.1 a0.2.1).bind _=_
    rw [hM']
    cases (List.range' 0 a0.2.1.length).all (fun i=>Anf a0.1.length (a0.2.1.getD i zW))<;>rfl
  ·rw [Bd hp]
   rfl
def k8 {R:Type} (k:Kt R):=(Bx (I3 (Cy 5) (.exit 0) 2 k) (I3 (Cy 5) .ret 1 k))
def Zy {R:Type} (k:Kt R):=(Bx (I3 (Cy 11) (.exit 2) 4 k) (I3 (Cy 11) .ret 1 k))
def Ys {R:Type}:Lt R Cy:=(Ea (pat:=Cy) 5 (fun d k=>(Art d).bind (k8 k)) (Ea (pat:=Cy) 11 (fun d k=>(Anv d).bind (Zy k)) Hn))
theorem Wl:A2 Tryz.prog Wj:=A5 ⟨D2,trivial⟩
theorem Anw {R:Type}:A4 Tryz.prog R 51 0 Cy Ys Zx:=
 B8 (cfg:=⟨Wj,0,51,Cy⟩) 11 [] (fun NX X d=>(u4 (Ac Ae)) (Jr  NX (fun e=>X (.inl (e))) (fun e=>X (.inr (e)))) d) (fun m d=>(u4 (Ac Ae)) (Cj m) d) (fun d=>(u4 (Ac Ae)) Fg d) Zy Wl trivial (fun f NX d=>by simp only [u4,Ac,Ae]; unfold Jr; simp only [nb])
theorem Aru {R:Type}:A4 Tryz.prog R 51 0 Cy Ys k7:=
 B8 (cfg:=⟨Wj,0,51,Cy⟩) 5 [] (fun NX X d=>(u4 (Ac Ae)) (Kv  NX (fun e=>X (.inl (e))) (fun e=>X (.inr (e)))) d) (fun m d=>(u4 (Ac Ae)) (Cr m) d) (fun d=>(u4 (Ac Ae)) Gf d) k8 Wl trivial (fun f NX d=>by simp only [u4,Ac,Ae]; unfold Kv; simp only [nb])
theorem J8:Bs Tryz.prog 94 Hz:=
 A3 (pat:=Cy) [k7,Zx] Ys Wl ⟨Aru,Anw,trivial⟩ Tryz.func94 (de:=fun x=>Wk x.1) (fun x r h=>(Axs x.1).trans h) fun _=>by kernel_rfl
def Bv (n:Int):Int:=Al n
def A9v:Gc:=⟨[.rd tI],[none],[.rd tI],[none]⟩
def O9:SD:=⟨A9v,fun x=>some (((Bv x.1),()),(()))⟩
def Aa3 (a0:Int):Option ((((Int)×Unit)×(Unit))):=
 bif !Ba a0 8 200 then some ((0,()),()) else some ((IntKind.i64.wrap ((IntKind.i64.wrap (a0 - 2)).tdiv 2),()),())
theorem A9w (a0:Int):Aa3 a0=some (((Bv a0),()),(())):=by
 unfold Aa3 Bv Al
 show (bif !Bw a0 8 200 then _ else _)=_
 cases h:Bw a0 8 200 with
 | false=>rfl
 | true=>
  obtain ⟨h1,h2⟩:=Cv h
  rw [A3j h1 h2]
  rfl
theorem R6:Bs Tryz.prog 96 O9:=
 A3 (pat:=Dp) [] Hn (A5 (l:=[(95,Dm)]) ⟨D2,trivial⟩) trivial Tryz.func96 (de:=fun x=>Aa3 x.1) (fun x r h=>(A9w x.1).trans h) fun _=>by kernel_rfl
def Wm (k:Aa):Bool:=Vn k
def A4q:Gc:=⟨[.rd .str],[none],[.rd .bool],[none]⟩
def d6:SD:=⟨A4q,fun x=>some (((Wm x.1),()),(()))⟩
def Akq (a0:Aa):Option ((((Bool)×Unit)×(Unit))):=
 some ((Ba (nI a0.size) 1 20,()),())
theorem A4r (a0:Aa):Akq a0=some ((Wm a0,()),()):=rfl
theorem Akr:Bs Tryz.prog 196 d6:=
 A3 (pat:=Dp) [] Hn (A5 (l:=[(95,Dm)]) ⟨D2,trivial⟩) trivial Tryz.func196 (de:=fun x=>Akq x.1) (fun x r h=>(A4r x.1).trans h) fun _=>by kernel_rfl
def H0 (b:List Be):Bool:=A0 b
def Au8:Gc:=⟨[.rd (.sl Do)],[none],[.rd .bool],[none]⟩
def Ha:SD:=⟨Au8,fun x=>some (((H0 x.1),()),(()))⟩
def Aa4:Tb:=tb [(95,Dm),(196,d6)]
def Hb:Nat→C2×(Nat→C2):=F0 [(5,⟨[.sl 9 0 Do],[(9,.lf (.d (.sl Do))),(10,.lf (.d tI)),(11,.lf (.d tI))],[]⟩,[(2,p0),(1,⟨[],[(2,.lf (.d .bool))],[]⟩)])]
def Zz:Code:=(At (Bb Tryz.f118)).getD 0 .skip
def Js (v9:List Be) (v10 v11:Int):Nat:=(v10 - v11).toNat + 1
def Jt {R:Type}  (NX:((List Be)×(Int)×(Int)×Unit)→Option R) (X2:(Unit)→Option R) (X1:((Bool)×Unit)→Option R) (v9:List Be) (v10:Int) (v11:Int):Option R:=
 bif decide (v11 < v10) then bif decide (0≤v11) then bif decide (v11 < nI v9.length) then bif !Wm (v9.getD v11.toNat (Ad,Ad,false,())).1 then X1 (false,()) else bif decide (nI (ByteArray.size (v9.getD v11.toNat (Ad,Ad,false,())).2.1) > 100) then X1 (false,()) else bif (v9.getD v11.toNat (Ad,Ad,false,())).2.2.1 then bif !ByteArray.toList (v9.getD v11.toNat (Ad,Ad,false,())).2.1==(Ad).toList then X1 (false,()) else NX (v9,v10,IntKind.i64.wrap (v11 + 1),()) else NX (v9,v10,IntKind.i64.wrap (v11 + 1),()) else none else none else X2 PUnit.unit
def Da:Nat→(List Be)→(Int)→(Int) →  Option ((Unit) ⊕ ((Bool)×Unit))
 | 0,_,_,_=>none
 | m + 1,v9,v10,v11=>Jt  (fun d=>Da m d.1 d.2.1 d.2.2.1) (fun d=>some (.inl (d))) (fun d=>some (.inr (d))) v9 v10 v11
def Anx (d:(List Be)×(Int)×(Int)×Unit):Option ((Unit) ⊕ ((Bool)×Unit)):=(Ac (Ac (Ac Ae))) (Da ((Ac (Ac (Ac Ae))) Js d)) d
def Uv (a0:List Be):Option ((((Bool)×Unit)×(Unit))):=
 bif !Ba (nI a0.length) 1 20 then some ((false,()),()) else ((fun d=>Da (Js d.1 d.2.1 d.2.2.1) d.1 d.2.1 d.2.2.1) (a0,nI a0.length,0,())).bind fun val=>Bx (fun d=>some ((true,()),())) (fun d=>some (d,())) val
theorem Au9 (a0:List Be):Uv a0=some (((H0 a0),()),(())):=by
 unfold Uv H0 A0
 have tl:ByteArray.toList (Ad)=[]:=by decide +kernel
 show (bif !Bw (a0.length:Int) 1 20 then _ else _)=_
 cases hin:Bw (a0.length:Int) 1 20 with
 | false=>rfl
 | true=>
  have hlen:a0.length≤20:=by have:=(Cv hin).2; omega
  have hL:=O1 (n:=a0.length) (fun i=>Tj (a0.getD i zC)) (g:=fun m i=>Da m a0 (nI a0.length) i) (ok:=.inl ()) (bad:=.inr (false,())) (fun m i hi=>by
   show Da (m + 1) a0 (nI a0.length) i=_
   simp only [Da,Jt]
   rw [tl,Xv hi,G9,wI (show i < 4611686018427387904 by omega),En]
   have g1:decide (nI (ByteArray.size (List.getD a0 i (Ad,Ad,false,())).2.1) > 100)=!decide ((a0.getD i zC).2.1.size≤100):=Ani _ 100
   rw [g1]
   show (bif !Vn (a0.getD i zC).1 then _ else (bif _ then _ else (bif (a0.getD i zC).2.2.1 then (bif !((a0.getD i zC).2.1.toList==[]) then _ else _) else _)))=_
   unfold Tj
   cases Vn (a0.getD i zC).1<;>cases decide ((a0.getD i zC).2.1.size≤100)<;>cases (a0.getD i zC).2.2.1<;>cases ((a0.getD i zC).2.1.toList==[])<;>rfl) (fun m=>by
   show Da (m + 1) a0 (nI a0.length) (a0.length:Int)=_
   simp only [Da,Jt]
   rw [Od]
   rfl) (Js a0 (nI a0.length) 0) 0 (by omega) (by simp [Js,nI])
  refine bi_ hL ?_
  rw [Nat.sub_zero]
  cases (List.range' 0 a0.length).all (fun i=>Tj (a0.getD i zC))<;>rfl
def Z0 {R:Type} (k:Kt R):=(Bx (I3 (Hb 5) (.exit 0) 2 k) (I3 (Hb 5) .ret 1 k))
def Adw {R:Type}:Lt R Hb:=(Ea (pat:=Hb) 5 (fun d k=>(Anx d).bind (Z0 k)) Hn)
theorem Aa5:A2 Tryz.prog Aa4:=A5 ⟨D2,Akr,trivial⟩
theorem Anz {R:Type}:A4 Tryz.prog R 35 0 Hb Adw Zz:=
 B8 (cfg:=⟨Aa4,0,35,Hb⟩) 5 [] (fun NX X d=>(Ac (Ac (Ac Ae))) (Jt  NX (fun e=>X (.inl (e))) (fun e=>X (.inr (e)))) d) (fun m d=>(Ac (Ac (Ac Ae))) (Da m) d) (fun d=>(Ac (Ac (Ac Ae))) Js d) Z0 Aa5 trivial (fun f NX d=>by simp only [u4,Ac,Ae]; unfold Jt; simp only [nb])
theorem Qh:Bs Tryz.prog 118 Ha:=
 A3 (pat:=Hb) [Zz] Adw Aa5 ⟨Anz,trivial⟩ Tryz.func118 (de:=fun x=>Uv x.1) (fun x r h=>(Au9 x.1).trans h) fun _=>by kernel_rfl
def F5 (b:List Be):Aa:=Bh b
def Axt:Gc:=⟨[.rd (.sl Do)],[none],[.rd .str],[none]⟩
def Rp:SD:=⟨Axt,fun x=>some (((F5 x.1),()),(()))⟩
def Wn:Tb:=⟨tbF [(118,Ha),(182,Yn)],fun f=>if f=197 then some Tryz.f197 else none,some (227,209),some (198,209,5),none⟩
def J9:Nat→C2×(Nat→C2):=F0 [(6,⟨[.sl 9 0 Do,.self 3 0,.boxRow 3 1 5 (.int .u8)],[(3,.lf (.ptr 0 0)),(9,.lf (.d (.sl Do))),(10,.lf (.d tI)),(11,.lf (.d tI))],[.box 209 [.sp 0,.row 1],.row 5 (.int .u8)]⟩,[(2,⟨[.self 3 0,.boxRow 3 1 5 (.int .u8)],[(3,.lf (.ptr 0 0))],[.box 209 [.sp 0,.row 1],.row 5 (.int .u8)]⟩)])]
def k9:Code:=(At (Bb Tryz.f120)).getD 0 .skip
def Kw (v9:List Be) (v10 v11:Int) (r1:List Int):Nat:=(v10 - v11).toNat + 1
def Kx {R:Type}  (NX:((List Be)×(Int)×(Int)×(List Int)×Unit)→Option R) (X2:((List Int)×Unit)→Option R) (v9:List Be) (v10:Int) (v11:Int) (r1:List Int):Option R:=
 bif decide (v11 < v10) then bif decide (0≤v11) then bif decide (v11 < nI v9.length) then bif (v9.getD v11.toNat (Ad,Ad,false,())).2.2.1 then bif decide ((ByteArray.mk #[1]++Dj (nI (ByteArray.size (v9.getD v11.toNat (Ad,Ad,false,())).1)) (Int.toNat 1)).size + ByteArray.size (v9.getD v11.toNat (Ad,Ad,false,())).1≤9223372036854775807) then bif decide (r1.length + (ByteArray.mk #[1]++Dj (nI (ByteArray.size (v9.getD v11.toNat (Ad,Ad,false,())).1)) (Int.toNat 1)++(v9.getD v11.toNat (Ad,Ad,false,())).1).size≤140737488355328) then NX (v9,v10,IntKind.i64.wrap (v11 + 1),r1++Af (ByteArray.mk #[1]++Dj (nI (ByteArray.size (v9.getD v11.toNat (Ad,Ad,false,())).1)) (Int.toNat 1)++(v9.getD v11.toNat (Ad,Ad,false,())).1),()) else none else none else bif decide ((ByteArray.mk #[0]++Dj (nI (ByteArray.size (v9.getD v11.toNat (Ad,Ad,false,())).1)) (Int.toNat 1)).size + ByteArray.size (v9.getD v11.toNat (Ad,Ad,false,())).1≤9223372036854775807) then bif decide ((ByteArray.mk #[0]++Dj (nI (ByteArray.size (v9.getD v11.toNat (Ad,Ad,false,())).1)) (Int.toNat 1)++(v9.getD v11.toNat (Ad,Ad,false,())).1).size + (Dj (nI (ByteArray.size (v9.getD v11.toNat (Ad,Ad,false,())).2.1)) (Int.toNat 1)).size≤9223372036854775807) then bif decide ((ByteArray.mk #[0]++Dj (nI (ByteArray.size (v9.getD v11.toNat (Ad,Ad,false,())).1)) (Int.toNat 1)++(v9.getD v11.toNat (Ad,Ad,false,())).1++Dj (nI (ByteArray.size (v9.getD v11.toNat (Ad,Ad,false,())).2.1)) (Int.toNat 1)).size + ByteArray.size (v9.getD v11.toNat (Ad,Ad,false,())).2.1≤9223372036854775807) then bif decide (r1.length + (ByteArray.mk #[0]++Dj (nI (ByteArray.size (v9.getD v11.toNat (Ad,Ad,false,())).1)) (Int.toNat 1)++(v9.getD v11.toNat (Ad,Ad,false,())).1++Dj (nI (ByteArray.size (v9.getD v11.toNat (Ad,Ad,false,())).2.1)) (Int.toNat 1)++(v9.getD v11.toNat (Ad,Ad,false,())).2.1).size≤140737488355328) then NX (v9,v10,IntKind.i64.wrap (v11 + 1),r1++Af (ByteArray.mk #[0]++Dj (nI (ByteArray.size (v9.getD v11.toNat (Ad,Ad,false,())).1)) (Int.toNat 1)++(v9.getD v11.toNat (Ad,Ad,false,())).1++Dj (nI (ByteArray.size (v9.getD v11.toNat (Ad,Ad,false,())).2.1)) (Int.toNat 1)++(v9.getD v11.toNat (Ad,Ad,false,())).2.1),()) else none else none else none else none else none else none else X2 (r1,())
def Cg:Nat→(List Be)→(Int)→(Int)→(List Int) →  Option ((List Int)×Unit)
 | 0,_,_,_,_=>none
 | m + 1,v9,v10,v11,r1=>Kx  (fun d=>Cg m d.1 d.2.1 d.2.2.1 d.2.2.2.1) (fun d=>some (d)) v9 v10 v11 r1
def Arv (d:(List Be)×(Int)×(Int)×(List Int)×Unit):Option ((List Int)×Unit):=(u4 Ae) (Cg ((u4 Ae) Kw d)) d
def Wo (a0:List Be):Option ((((Aa)×Unit)×(Unit))):=
 bif !H0 a0 then some ((Ad,()),()) else ((fun d=>Cg (Kw d.1 d.2.1 d.2.2.1 d.2.2.2.1) d.1 d.2.1 d.2.2.1 d.2.2.2.1) (a0,nI a0.length,0,[],())).bind fun val=>bif Hp val.1 then some ((strOfNums val.1,()),()) else none
theorem Axu (a0:List Be):Wo a0=some ((F5 a0,()),(())):=by
 unfold Wo F5 Bh
 show (bif !A0 a0 then _ else _)=_
 cases hv:A0 a0 with
 | false=>rfl
 | true=>
  obtain ⟨hlen,hok⟩:=Zh hv
  have hL:=Aq9 a0.length A8s (fun i r=>r++x6 (a0.getD i zC)) (g:=fun m i r=>Cg m a0 (nI a0.length) i r) (ok:=fun r=>(r,())) (fun m i r hi hr=>by
   show Cg (m + 1) a0 (nI a0.length) i r=_
   simp only [Cg,Kx]
   have hc:=hok i hi
   obtain ⟨k1,k2,k3⟩:=Ara hc
   rw [Xv hi,G9,wI (show i < 4611686018427387904 by omega),En]
   show (bif (a0.getD i zC).2.2.1 then (bif decide (ByteArray.size (ByteArray.mk #[1]++Dj (nI (ByteArray.size (a0.getD i zC).1)) 1) + ByteArray.size (a0.getD i zC).1≤9223372036854775807) then (bif decide (List.length r + ByteArray.size (ByteArray.mk #[1]++Dj (nI (ByteArray.size (a0.getD i zC).1)) 1++(a0.getD i zC).1)≤140737488355328) then Cg m a0 (nI a0.length) ((i + 1:Nat):Int) (r++Af (ByteArray.mk #[1]++Dj (nI (ByteArray.size (a0.getD i zC).1)) 1++(a0.getD i zC).1)) else none) else none) else (bif decide (ByteArray.size (ByteArray.mk #[0]++Dj (nI (ByteArray.size (a0.getD i zC).1)) 1) + ByteArray.size (a0.getD i zC).1≤9223372036854775807) then (bif decide (ByteArray.size (ByteArray.mk #[0]++Dj (nI (ByteArray.size (a0.getD i zC).1)) 1++(a0.getD i zC).1) + ByteArray.size (Dj (nI (ByteArray.size (a0.getD i zC).2.1)) 1)≤9223372036854775807) then (bif decide (ByteArray.size (ByteArray.mk #[0]++Dj (nI (ByteArray.size (a0.getD i zC).1)) 1++(a0.getD i zC).1++Dj (nI (ByteArray.size (a0.getD i zC).2.1)) 1) + ByteArray.size (a0.getD i zC).2.1≤9223372036854775807) then (bif decide (List.length r + ByteArray.size (ByteArray.mk #[0]++Dj (nI (ByteArray.size (a0.getD i zC).1)) 1++(a0.getD i zC).1++Dj (nI (ByteArray.size (a0.getD i zC).2.1)) 1++(a0.getD i zC).2.1)≤140737488355328) then Cg m a0 (nI a0.length) ((i + 1:Nat):Int) (r++Af (ByteArray.mk #[0]++Dj (nI (ByteArray.size (a0.getD i zC).1)) 1++(a0.getD i zC).1++Dj (nI (ByteArray.size (a0.getD i zC).2.1)) 1++(a0.getD i zC).2.1)) else none) else none) else none) else none))=Cg m a0 (nI a0.length) ((i + 1:Nat):Int) (r++x6 (a0.getD i zC))
   have hr1:=hr.1
   generalize a0.getD i zC=c at *
   have o1:Af (ByteArray.mk #[1])=[1]:=rfl
   have o0:Af (ByteArray.mk #[0])=[0]:=rfl
   have s1:ByteArray.size (ByteArray.mk #[1])=1:=rfl
   have s0:ByteArray.size (ByteArray.mk #[0])=1:=rfl
   simp only [O2,Bjz _ (show c.1.size < 256 by omega),Bjz _ (show c.2.1.size < 256 by omega),o1,o0,ByteArray.size_append,L4,s1,s0]
   rw [Ag (show 1 + 1 + c.1.size≤9223372036854775807 by omega),Ag (show r.length + (1 + 1 + c.1.size)≤140737488355328 by omega),Ag (show 1 + 1 + c.1.size + 1≤9223372036854775807 by omega),Ag (show 1 + 1 + c.1.size + 1 + c.2.1.size≤9223372036854775807 by omega),Ag (show r.length + (1 + 1 + c.1.size + 1 + c.2.1.size)≤140737488355328 by omega)]
   unfold x6
   cases c.2.2.1<;>rfl) (fun m r _=>by
   show Cg (m + 1) a0 (nI a0.length) (a0.length:Int) r=_
   simp only [Cg,Kx]
   rw [Od]
   rfl) (fun i r hi hr=>hr.step (hok i hi)) a0.length (Kw a0 (nI a0.length) 0 []) 0 [] (by omega) (by simp [Kw,nI]) ⟨by simp,rfl⟩
  have hB:=Bj0 hok a0.length 0 [] (by omega) ⟨by simp,rfl⟩
  rw [A8r x6 zC a0 a0.length 0 [] (by omega),List.nil_append,List.drop_zero] at hL hB
  refine bi_ hL ?_
  show (bif Hp (Jp a0) then some ((strOfNums (Jp a0),()),()) else none)=_
  have:Hp (Jp a0)=true:=hB.2
  rw [this]
  rfl
def l3 {R:Type} (k:Kt R):=(I3 (J9 6) (.exit 0) 2 k)
def Ag8 {R:Type}:Lt R J9:=(Ea (pat:=J9) 6 (fun d k=>(Arv d).bind (l3 k)) Hn)
theorem Adx:A2 Tryz.prog Wn where
 sd:=Bg6 (l:=[(118,Ha),(182,Yn)]) ⟨Qh,Ajz,trivial⟩
 inl:=fun f fn h=>by
  simp only [Wn] at h
  split at h
  ·rename_i e; subst e; cases h; exact ⟨Tryz.func197,by kernel_rfl,by kernel_rfl⟩
  cases h
 cc:=fun f BT h=>by cases h; exact ⟨⟨_,Tryz.func227,by kernel_rfl,by kernel_rfl⟩,Bvh⟩
 st:=fun f BT e h=>by cases h; exact ⟨⟨_,Tryz.func198,by kernel_rfl,by kernel_rfl⟩,Bvi⟩
 srt:=fun fs fc BT U e h=>by cases h
theorem Arw {R:Type}:A4 Tryz.prog R 45 0 J9 Ag8 k9:=
 B8 (cfg:=⟨Wn,0,45,J9⟩) 6 [] (fun NX X d=>(u4 Ae) (Kx  NX X) d) (fun m d=>(u4 Ae) (Cg m) d) (fun d=>(u4 Ae) Kw d) l3 Adx trivial (fun f NX d=>by simp only [u4,Ac,Ae]; unfold Kx; simp only [nb])
theorem Wp:Bs Tryz.prog 120 Rp:=
 A3 (pat:=J9) [k9] Ag8 Adx ⟨Arw,trivial⟩ Tryz.func120 (de:=fun x=>Wo x.1) (fun x r h=>(Axu x.1).trans h) fun _=>by kernel_rfl
def Gq (s:B5):Bool:=Ak s
def Ava:Gc:=⟨[.rd C8],[some 1],[.rd .bool],[none]⟩
def I5:SD:=⟨Ava,fun x=>some (((Gq x.1),()),(()))⟩
def Aa6:Tb:=tb [(196,d6)]
def Hc:Nat→C2×(Nat→C2):=F0 [(5,⟨[.sl 10 0 Ax,.boxSl 1 0 Ax],[(1,.lf (.ptr 0 0)),(10,.lf (.d (.sl Ax))),(11,.lf (.d tI)),(12,.lf (.d tI))],[.box 31 [.d (.sl Ax)]]⟩,[(2,p0),(1,⟨[],[(2,.lf (.d .bool))],[]⟩)])]
def Z1:Code:=(At (Bb Tryz.f150)).getD 0 .skip
def Fh (v10:List A1) (v11 v12:Int) (b0_0:List A1):Nat:=(v11 - v12).toNat + 1
def Ju {R:Type}  (NX:((List A1)×(Int)×(Int)×(List A1)×Unit)→Option R) (X2:(Unit)→Option R) (X1:((Bool)×Unit)→Option R) (v10:List A1) (v11:Int) (v12:Int) (b0_0:List A1):Option R:=
 bif decide (v12 < v11) then bif decide (0≤v12) then bif decide (v12 < nI v10.length) then bif !Wm (v10.getD v12.toNat (Ad,Ad,())).1 then X1 (false,()) else bif decide (nI (ByteArray.size (v10.getD v12.toNat (Ad,Ad,())).2.1) > 100) then X1 (false,()) else bif decide (v12 > 0) then bif decide (0≤IntKind.i64.wrap (v12 - 1)) then bif decide (IntKind.i64.wrap (v12 - 1) < nI b0_0.length) then bif !Op.bytesLess (ByteArray.toList (b0_0.getD (IntKind.i64.wrap (v12 - 1)).toNat (Ad,Ad,())).1) (ByteArray.toList (v10.getD v12.toNat (Ad,Ad,())).1) then X1 (false,()) else NX (v10,v11,IntKind.i64.wrap (v12 + 1),b0_0,()) else none else none else NX (v10,v11,IntKind.i64.wrap (v12 + 1),b0_0,()) else none else none else X2 PUnit.unit
def Ck:Nat→(List A1)→(Int)→(Int)→(List A1) →  Option ((Unit) ⊕ ((Bool)×Unit))
 | 0,_,_,_,_=>none
 | m + 1,v10,v11,v12,b0_0=>Ju  (fun d=>Ck m d.1 d.2.1 d.2.2.1 d.2.2.2.1) (fun d=>some (.inl (d))) (fun d=>some (.inr (d))) v10 v11 v12 b0_0
def An0 (d:(List A1)×(Int)×(Int)×(List A1)×Unit):Option ((Unit) ⊕ ((Bool)×Unit)):=(u4 Ae) (Ck ((u4 Ae) Fh d)) d
def Uw (a0:B5):Option ((((Bool)×Unit)×(Unit))):=
 bif decide (nI (List.length a0.1) > 100) then some ((false,()),()) else ((fun d=>Ck (Fh d.1 d.2.1 d.2.2.1 d.2.2.2.1) d.1 d.2.1 d.2.2.1 d.2.2.2.1) (a0.1,nI (List.length a0.1),0,a0)).bind fun val=>Bx (fun d=>some ((true,()),())) (fun d=>some (d,())) val
theorem Avb (a0:B5):Uw a0=some ((Gq a0,()),()):=by
 unfold Uw Gq Ak
 have c1:decide (nI a0.1.length > 100)=!decide (a0.1.length≤100):=Ani _ 100
 by_cases hl:a0.1.length≤100
 ·have hL:=O1 (n:=a0.1.length) (Qy a0.1) (g:=fun m i=>Ck m a0.1 (nI a0.1.length) i a0.1) (ok:=.inl ()) (bad:=.inr (false,())) (fun m i hi=>by
   show Ck (m + 1) a0.1 (nI a0.1.length) i a0.1=_
   simp only [Ck,Ju]
   have g1:decide (nI (ByteArray.size (List.getD a0.1 i (Ad,Ad,())).2.1) > 100)=!decide (ByteArray.size (List.getD a0.1 i zP).2.1≤100):=Ani _ 100
   rw [Xv hi,G9,wI (show i < 4611686018427387904 by omega),En,gt0,g1]
   simp only [cond_true]
   unfold Qy bl
   show (bif !Vn (List.getD a0.1 i zP).1 then _ else _)=_
   cases i with
   | zero=>
    show (bif !Vn (List.getD a0.1 0 zP).1 then _ else bif !decide (ByteArray.size (List.getD a0.1 0 zP).2.1≤100) then _ else _)=_
    cases Vn (List.getD a0.1 0 zP).1<;>cases decide (ByteArray.size (List.getD a0.1 0 zP).2.1≤100)<;>rfl
   | succ j=>
    rw [wP j (by omega),G9,Xv (show j < a0.1.length by omega)]
    show (bif !Vn (List.getD a0.1 (j + 1) zP).1 then _ else bif !decide (ByteArray.size (List.getD a0.1 (j + 1) zP).2.1≤100) then _ else bif !Op.bytesLess (ByteArray.toList (List.getD a0.1 j zP).1) (ByteArray.toList (List.getD a0.1 (j + 1) zP).1) then _ else _)=_
    rw [Nat.add_sub_cancel]
    cases Vn (List.getD a0.1 (j + 1) zP).1<;>cases decide (ByteArray.size (List.getD a0.1 (j + 1) zP).2.1≤100)<;>cases Op.bytesLess (ByteArray.toList (List.getD a0.1 j zP).1) (ByteArray.toList (List.getD a0.1 (j + 1) zP).1)<;>rfl) (fun m=>by
   show Ck (m + 1) a0.1 (nI a0.1.length) (a0.1.length:Int) a0.1=_
   simp only [Ck,Ju]
   rw [Od]
   rfl) (Fh a0.1 (nI a0.1.length) 0 a0.1) 0 (by omega) (by simp [Fh,nI])
  have hL':Ck (Fh a0.1 (nI a0.1.length) 0 a0.1) a0.1 (nI a0.1.length) 0 a0.1=_:=hL
  rw [c1,Ag hl]
  show (Ck (Fh a0.1 (nI a0.1.length) 0 a0.1) a0.1 (nI a0.1.length) 0 a0.1).bind _=_
  rw [hL']
  cases (List.range' 0 (a0.1.length - 0)).all (Qy a0.1)<;>rfl
 ·rw [c1,Bd hl]
  rfl
def Z2 {R:Type} (k:Kt R):=(Bx (I3 (Hc 5) (.exit 0) 2 k) (I3 (Hc 5) .ret 1 k))
def Ady {R:Type}:Lt R Hc:=(Ea (pat:=Hc) 5 (fun d k=>(An0 d).bind (Z2 k)) Hn)
theorem Aa7:A2 Tryz.prog Aa6:=A5 ⟨Akr,trivial⟩
theorem An1 {R:Type}:A4 Tryz.prog R 44 0 Hc Ady Z1:=
 B8 (cfg:=⟨Aa6,0,44,Hc⟩) 5 [] (fun NX X d=>(u4 Ae) (Ju  NX (fun e=>X (.inl (e))) (fun e=>X (.inr (e)))) d) (fun m d=>(u4 Ae) (Ck m) d) (fun d=>(u4 Ae) Fh d) Z2 Aa7 trivial (fun f NX d=>by simp only [u4,Ac,Ae]; unfold Ju; simp only [nb])
theorem Qi:Bs Tryz.prog 150 I5:=
 A3 (pat:=Hc) [Z1] Ady Aa7 ⟨An1,trivial⟩ Tryz.func150 (de:=fun x=>Uw x.1) (fun x r h=>(Avb x.1).trans h) fun _=>by kernel_rfl
def Ir (s:B5):List (List Be):=Ec s
def A1g:Gc:=⟨[.rd C8],[some 1],[.rd (.sl (.sl Do))],[none]⟩
def Yt:SD:=⟨A1g,fun x=>some (((Ir x.1),()),(()))⟩
def Ag9:Tb:=tb [(150,I5)]
def Li:Nat→C2×(Nat→C2):=F0 [(6,⟨[.last 3 99 Do,.sl 10 0 Ax],[(3,.lf (.row 0)),(10,.lf (.d (.sl Ax))),(11,.lf (.d tI)),(12,.lf (.d tI))],[.last 73 Do 1,.row 99 Do]⟩,[(2,⟨[.last 3 99 Do],[(3,.lf (.row 0))],[.last 73 Do 1,.row 99 Do]⟩)])]
def Aa8:Code:=(At (Bb Tryz.f179)).getD 0 .skip
def Hd (v10:List A1) (v11 v12:Int) (r0:List (List Be)) (c0:Bool) (r1:List Be):Nat:=(v11 - v12).toNat + 1
def L8 {R:Type}  (NX:((List A1)×(Int)×(Int)×(List (List Be))×(Bool)×(List Be)×Unit)→Option R) (X2:((List (List Be))×(Bool)×(List Be)×Unit)→Option R) (v10:List A1) (v11:Int) (v12:Int) (r0:List (List Be)) (c0:Bool) (r1:List Be):Option R:=
 bif decide (v12 < v11) then bif decide (0≤v12) then bif decide (v12 < nI v10.length) then bif v12.tmod 20==0 then bif decide ((r0.length + c0.toNat + 1) * 24≤140737488355328) then bif decide (0≤IntKind.i64.wrap (nI ((bif c0 then r0++[r1] else r0).length + true.toNat) - 1)) then bif decide (IntKind.i64.wrap (nI ((bif c0 then r0++[r1] else r0).length + true.toNat) - 1) < nI ((bif c0 then r0++[r1] else r0).length + true.toNat)) then bif decide ((IntKind.i64.wrap (nI ((bif c0 then r0++[r1] else r0).length + true.toNat) - 1)).toNat=(bif c0 then r0++[r1] else r0).length) then bif decide (0≤IntKind.i64.wrap (nI ((bif c0 then r0++[r1] else r0).length + true.toNat) - 1)) then bif decide (IntKind.i64.wrap (nI ((bif c0 then r0++[r1] else r0).length + true.toNat) - 1) < nI ((bif c0 then r0++[r1] else r0).length + true.toNat)) then bif decide ((IntKind.i64.wrap (nI ((bif c0 then r0++[r1] else r0).length + true.toNat) - 1)).toNat=(bif c0 then r0++[r1] else r0).length) then NX (v10,v11,IntKind.i64.wrap (v12 + 1),bif c0 then r0++[r1] else r0,true,[]++[((v10.getD v12.toNat (Ad,Ad,())).1,(v10.getD v12.toNat (Ad,Ad,())).2.1,false,())],()) else none else none else none else none else none else none else none else bif decide (0≤IntKind.i64.wrap (nI (r0.length + c0.toNat) - 1)) then bif decide (IntKind.i64.wrap (nI (r0.length + c0.toNat) - 1) < nI (r0.length + c0.toNat)) then bif c0 then bif decide ((IntKind.i64.wrap (nI (r0.length + c0.toNat) - 1)).toNat=r0.length) then bif decide ((r1.length + [((v10.getD v12.toNat (Ad,Ad,())).1,(v10.getD v12.toNat (Ad,Ad,())).2.1,false,())].length) * 40≤140737488355328) then bif decide (0≤IntKind.i64.wrap (nI (r0.length + c0.toNat) - 1)) then bif decide (IntKind.i64.wrap (nI (r0.length + c0.toNat) - 1) < nI (r0.length + c0.toNat)) then bif c0 then bif decide ((IntKind.i64.wrap (nI (r0.length + c0.toNat) - 1)).toNat=r0.length) then NX (v10,v11,IntKind.i64.wrap (v12 + 1),r0,c0,r1++[((v10.getD v12.toNat (Ad,Ad,())).1,(v10.getD v12.toNat (Ad,Ad,())).2.1,false,())],()) else none else none else none else none else none else none else none else none else none else none else none else X2 (r0,c0,r1,())
def C4:Nat→(List A1)→(Int)→(Int)→(List (List Be))→(Bool)→(List Be) →  Option ((List (List Be))×(Bool)×(List Be)×Unit)
 | 0,_,_,_,_,_,_=>none
 | m + 1,v10,v11,v12,r0,c0,r1=>L8  (fun d=>C4 m d.1 d.2.1 d.2.2.1 d.2.2.2.1 d.2.2.2.2.1 d.2.2.2.2.2.1) (fun d=>some (d)) v10 v11 v12 r0 c0 r1
def Avc (d:(List A1)×(Int)×(Int)×(List (List Be))×(Bool)×(List Be)×Unit):Option ((List (List Be))×(Bool)×(List Be)×Unit):=(u4 (Ac (Ac Ae))) (C4 ((u4 (Ac (Ac Ae))) Hd d)) d
def Yu (a0:B5):Option ((((List (List Be))×Unit)×(Unit))):=
 bif !Gq a0 then some (([],()),()) else ((fun d=>C4 (Hd d.1 d.2.1 d.2.2.1 d.2.2.2.1 d.2.2.2.2.1 d.2.2.2.2.2.1) d.1 d.2.1 d.2.2.1 d.2.2.2.1 d.2.2.2.2.1 d.2.2.2.2.2.1) (a0.1,nI (List.length a0.1),0,[],false,[],())).bind fun val=>some ((bif val.2.1 then val.1++[val.2.2.1] else val.1,()),())
theorem A1h (a0:B5):Yu a0=some (((Ir a0),()),(())):=by
 unfold Yu Ir Ec
 show (bif !Ak a0 then _ else _)=_
 cases hv:Ak a0 with
 | false=>rfl
 | true=>
  have hl:=Ca hv
  have hL:=E4 (xs:=a0.1) zP Bfc Nn (g:=fun m i s=>C4 m a0.1 (nI a0.1.length) i s.1 s.2.1 s.2.2) (ok:=fun s=>(s.1,s.2.1,s.2.2,())) (fun m i s hi hI=>by
   show C4 (m + 1) a0.1 (nI a0.1.length) i s.1 s.2.1 s.2.2=_
   obtain ⟨r0,c0,r1⟩:=s
   obtain ⟨h1,h2,h3,h4⟩:=hI
   simp only at h2 h3 h4 ⊢
   simp only [C4,L8]
   rw [Xv hi,G9,wI (show i < 4611686018427387904 by omega),En,Bth]
   unfold Nn
   cases hc:(i % 20==0)
   ·have hp:0 < i:=Nat.pos_of_ne_zero fun q=>by subst q; cases hc
    have hc0:=h3 hp
    subst hc0
    have e1:=Bg8 r0.length (by omega)
    have e2:decide ((r0.length:Int) < nI (r0.length + 1))=true:=Xv (Nat.lt_succ_self _)
    have e3:decide ((r1.length + 1) * 40≤140737488355328)=true:=Ag (by omega)
    simp only [Bool.toNat_true,Et,cond_true,cond_false,e1,e2,e3,G9,En,decide_true]
    rfl
   ·have hL:List.length (bif c0 then r0++[r1] else r0)≤i + 1:=by cases c0<;>simp<;>omega
    have e1:=Bg8 (List.length (bif c0 then r0++[r1] else r0)) (by omega)
    have e2:decide (((List.length (bif c0 then r0++[r1] else r0):Nat):Int) < nI (List.length (bif c0 then r0++[r1] else r0) + 1))=true:=Xv (Nat.lt_succ_self _)
    have e3:decide ((r0.length + Bool.toNat c0 + 1) * 24≤140737488355328)=true:=Ag (by cases c0<;>simp<;>omega)
    simp only [Bool.toNat_true,cond_true,e1,e2,e3,G9,En,decide_true]
    rfl) (fun i s hi hI=>hI.step (by omega) _) (fun m s hI=>by
   show C4 (m + 1) a0.1 (nI a0.1.length) (a0.1.length:Int) s.1 s.2.1 s.2.2=_
   simp only [C4,L8]
   rw [Od]
   rfl) (Hd a0.1 (nI a0.1.length) 0 [] false []) 0 ([],false,[]) (by omega) (by simp [Hd,nI]) ⟨by omega,by simp,fun q=>by omega,by simp⟩
  have hL':C4 (Hd a0.1 (nI a0.1.length) 0 [] false []) a0.1 (nI a0.1.length) 0 [] false []=_:=hL
  show (C4 (Hd a0.1 (nI a0.1.length) 0 [] false []) a0.1 (nI a0.1.length) 0 [] false []).bind _=_
  rw [hL']
  rfl
def Aa9 {R:Type} (k:Kt R):=(I3 (Li 6) (.exit 0) 2 k)
def Aks {R:Type}:Lt R Li:=(Ea (pat:=Li) 6 (fun d k=>(Avc d).bind (Aa9 k)) Hn)
theorem Aha:A2 Tryz.prog Ag9:=A5 ⟨Qi,trivial⟩
theorem Avd {R:Type}:A4 Tryz.prog R 43 0 Li Aks Aa8:=
 B8 (cfg:=⟨Ag9,0,43,Li⟩) 6 [] (fun NX X (d:(List A1)×(Int)×(Int)×(List (List Be))×(Bool)×(List Be)×Unit)=>(u4 (Ac (Ac Ae))) (L8  NX X) d) (fun m d=>(u4 (Ac (Ac Ae))) (C4 m) d) (fun d=>(u4 (Ac (Ac Ae))) Hd d) Aa9 Aha trivial (fun f NX (d:(List A1)×(Int)×(Int)×(List (List Be))×(Bool)×(List Be)×Unit)=>by simp only [u4,Ac,Ae]; unfold L8; simp only [nb])
theorem Ahb:Bs Tryz.prog 179 Yt:=
 A3 (pat:=Li) [Aa8] Aks Aha ⟨Avd,trivial⟩ Tryz.func179 (de:=fun x=>Yu x.1) (fun x r h=>(A1h x.1).trans h) fun _=>by kernel_rfl
def Qj (s:Aa) (w:Int):Option Int:=if s.size≤1099511627776 then some (Ge s.size w) else none
def Bcw:Gc:=⟨[.rd .str,.rd tI],[none,none],[.rd tI],[none]⟩
def Aft:SD:=⟨Bcw,fun x=>(Qj x.1 x.2.1).bind fun r=>some ((r,()),(()))⟩
def Afu (a0:Aa) (a1:Int):Option ((((Int)×Unit)×(Unit))):=
 bif !Ba a1 1 8 then some ((0,()),()) else bif !decide (IntKind.i64.wrap (IntKind.i64.wrap (64 - a1) - 8)=0) then some ((if IntKind.i64.wrap ((IntKind.i64.wrap (IntKind.i64.wrap (nI a0.size + IntKind.i64.wrap (IntKind.i64.wrap (64 - a1) - 8)) - 1)).tdiv (IntKind.i64.wrap (IntKind.i64.wrap (64 - a1) - 8))) > 1 then IntKind.i64.wrap ((IntKind.i64.wrap (IntKind.i64.wrap (nI a0.size + IntKind.i64.wrap (IntKind.i64.wrap (64 - a1) - 8)) - 1)).tdiv (IntKind.i64.wrap (IntKind.i64.wrap (64 - a1) - 8))) else 1,()),()) else none
theorem Bcx (a0:Aa) (a1:Int) r (h:Qj a0 a1=some r):Afu a0 a1=some ((r,()),(())):=by
 unfold Qj at h
 split at h
 ·rename_i hc
  cases h
  unfold Afu Ge
  show (bif !Bw a1 1 8 then _ else _)=_
  cases hw:Bw a1 1 8 with
  | false=>rfl
  | true=>
   have k1:=(Cv hw).1
   have k2:=(Cv hw).2
   have hq:0≤((a0.size:Int) + (56 - a1) - 1) / (56 - a1):=Int.ediv_nonneg (by omega) (by omega)
   have hq2:((a0.size:Int) + (56 - a1) - 1) / (56 - a1)≤(a0.size:Int) + (56 - a1) - 1:=Int.ediv_le_self _ (by omega)
   rw [Aj (n:=64 - a1) (by omega) (by omega),Aj (n:=64 - a1 - 8) (by omega) (by omega),show 64 - a1 - 8=56 - a1 by omega]
   simp only [nI]
   rw [Aj (n:=(a0.size:Int) + (56 - a1)) (by omega) (by omega),Aj (n:=(a0.size:Int) + (56 - a1) - 1) (by omega) (by omega),Int.tdiv_eq_ediv_of_nonneg (by omega),Aj (n:=((a0.size:Int) + (56 - a1) - 1) / (56 - a1)) (by omega) (by omega),Bd (show ¬ (56 - a1=0) by omega)]
   rfl
 ·cases h
theorem As0:Bs Tryz.prog 180 Aft:=
 A3 (pat:=Dp) [] Hn (A5 (l:=[(95,Dm),(147,Wf)]) ⟨D2,y9,trivial⟩) trivial Tryz.func180 (de:=fun x=>Afu x.1 x.2.1) (fun x r h=>F1 (Bcx x.1 x.2.1) h) fun _=>by kernel_rfl
def Qb (s:B5) (w:Int):Int:=D4 s w
def Bhr:Gc:=⟨[.rd C8,.rd tI],[some 1,none],[.rd tI],[none]⟩
def z6:SD:=⟨Bhr,fun x=>some (((Qb x.1 x.2.1),()),(()))⟩
def Axv:Tb:=tb [(95,Dm),(120,Rp),(179,Yt),(180,Aft)]
def S4:Nat→C2×(Nat→C2):=F0 [(6,⟨[.sl 12 0 (.sl Do)],[(1,.lf (.d tI)),(5,.lf (.d tI)),(12,.lf (.d (.sl (.sl Do)))),(13,.lf (.d tI)),(14,.lf (.d tI))],[]⟩,[(2,⟨[],[(5,.lf (.d tI))],[]⟩)])]
def An2:Code:=(At (Bb Tryz.f102)).getD 0 .skip
def L9 (v1 v5:Int) (v12:List (List Be)) (v13 v14:Int):Nat:=(v13 - v14).toNat + 1
def R7 {R:Type}  (NX:((Int)×(Int)×(List (List Be))×(Int)×(Int)×Unit)→Option R) (X2:((Int)×Unit)→Option R) (v1:Int) (v5:Int) (v12:List (List Be)) (v13:Int) (v14:Int):Option R:=
 bif decide (v14 < v13) then bif decide (0≤v14) then bif decide (v14 < nI v12.length) then ((Qj (F5 (v12.getD v14.toNat [])) v1).bind fun val=>some ((val,()),())).bind fun val=>NX (v1,IntKind.i64.wrap (v5 + val.1.1),v12,v13,IntKind.i64.wrap (v14 + 1),()) else none else none else X2 (v5,())
def Fi:Nat→(Int)→(Int)→(List (List Be))→(Int)→(Int) →  Option ((Int)×Unit)
 | 0,_,_,_,_,_=>none
 | m + 1,v1,v5,v12,v13,v14=>R7  (fun d=>Fi m d.1 d.2.1 d.2.2.1 d.2.2.2.1 d.2.2.2.2.1) (fun d=>some (d)) v1 v5 v12 v13 v14
def A9x (d:(Int)×(Int)×(List (List Be))×(Int)×(Int)×Unit):Option ((Int)×Unit):=(u4 (Ac Ae)) (Fi ((u4 (Ac Ae)) L9 d)) d
def Aj0 (a0:B5) (a1:Int):Option ((((Int)×Unit)×(Unit))):=
 bif !Ba a1 1 8 then some ((0,()),()) else ((fun d=>Fi (L9 d.1 d.2.1 d.2.2.1 d.2.2.2.1 d.2.2.2.2.1) d.1 d.2.1 d.2.2.1 d.2.2.2.1 d.2.2.2.2.1) (a1,0,Ir a0,nI (Ir a0).length,0,())).bind fun val=>some (val,())
theorem Bhs (a0:B5) (a1:Int):Aj0 a0 a1=some (((Qb a0 a1),()),(())):=by
 unfold Aj0 Qb
 show (bif !Bw a1 1 8 then _ else _)=_
 cases hw:Bw a1 1 8 with
 | false=>unfold D4; rw [hw]; rfl
 | true=>
  have hl:=Vo a0
  have hL:=E4 (xs:=Ec a0) [] Bm0 (fun _ b a=>a + Ge (Bh b).size a1) (g:=fun m i a=>Fi m a1 a (Ec a0) (nI (Ec a0).length) i) (ok:=fun a=>(a,())) (fun m i a hi hI=>by
   show Fi (m + 1) a1 a (Ec a0) (nI (Ec a0).length) i=_
   simp only [Fi,R7]
   rw [Xv hi,G9,wI (show i < 4611686018427387904 by omega),En]
   have e1:Qj (F5 (List.getD (Ec a0) i [])) a1=some (Ge (Bh (List.getD (Ec a0) i [])).size a1):=if_pos (Nat.le_trans (L5 _) (by decide))
   rw [e1]
   simp only [cond_true,Option.bind_some]
   rw [A8v hI]) (fun i a hi hI=>hI.step (by omega) _ _) (fun m a hI=>by
   show Fi (m + 1) a1 a (Ec a0) (nI (Ec a0).length) ((Ec a0).length:Int)=_
   simp only [Fi,R7]
   rw [Od]
   rfl) (L9 a1 0 (Ec a0) (nI (Ec a0).length) 0) 0 0 (by omega) (by simp [L9,nI]) ⟨by omega,by omega,by omega⟩
  have hL':Fi (L9 a1 0 (Ec a0) (nI (Ec a0).length) 0) a1 0 (Ec a0) (nI (Ec a0).length) 0=_:=hL
  show (Fi (L9 a1 0 (Ec a0) (nI (Ec a0).length) 0) a1 0 (Ec a0) (nI (Ec a0).length) 0).bind _=_
  rw [hL',Arc,List.drop_zero,Bj7,Int.zero_add]
  rfl
def An3 {R:Type} (k:Kt R):=(I3 (S4 6) (.exit 0) 2 k)
def A3z {R:Type}:Lt R S4:=(Ea (pat:=S4) 6 (fun d k=>(A9x d).bind (An3 k)) Hn)
theorem Axw:A2 Tryz.prog Axv:=A5 ⟨D2,Wp,Ahb,As0,trivial⟩
theorem A9y {R:Type}:A4 Tryz.prog R 26 0 S4 A3z An2:=
 B8 (cfg:=⟨Axv,0,26,S4⟩) 6 [] (fun NX X d=>(u4 (Ac Ae)) (R7  NX X) d) (fun m d=>(u4 (Ac Ae)) (Fi m) d) (fun d=>(u4 (Ac Ae)) L9 d) An3 Axw trivial (fun f NX d=>by simp only [u4,Ac,Ae]; unfold R7; simp only [nb])
theorem Aj1:Bs Tryz.prog 102 z6:=
 A3 (pat:=S4) [An2] A3z Axw ⟨A9y,trivial⟩ Tryz.func102 (de:=fun x=>Aj0 x.1 x.2.1) (fun x r h=>(Bhs x.1 x.2.1).trans h) fun _=>by kernel_rfl
def I6 (r:Rt):Bool:=Jo r
def Axx:Gc:=⟨[.rd yRt],[some 4],[.rd .bool],[none]⟩
def Rq:SD:=⟨Axx,fun x=>some (((I6 x.1),()),(()))⟩
def Wq (a0:Rt):Option ((((Bool)×Unit)×(Unit))):=
 bif Ba a0.2.1 0 1 then some ((Ba a0.2.2.1 1 999999000,()),()) else some ((false,()),())
theorem Axy (a0:Rt):Wq a0=some (((I6 a0),()),(())):=by
 unfold Wq I6 Jo
 show (bif Bw a0.2.1 0 1 then _ else _)=_
 cases Bw a0.2.1 0 1<;>rfl
theorem Ws:Bs Tryz.prog 175 Rq:=
 A3 (pat:=Dp) [] Hn (A5 (l:=[(95,Dm)]) ⟨D2,trivial⟩) trivial Tryz.func175 (de:=fun x=>Wq x.1) (fun x r h=>(Axy x.1).trans h) fun _=>by kernel_rfl
def H3 (s:E5):Bool:=Au s
def Ave:Gc:=⟨[.rd Yf],[some 10],[.rd .bool],[none]⟩
def Ma:SD:=⟨Ave,fun x=>some (((H3 x.1),()),(()))⟩
def Ux (a0:E5):Option ((((Bool)×Unit)×(Unit))):=
 bif decide (Bv a0.2.1 > 0) then bif Ba a0.1 1 8 then bif Ba a0.2.2.1 1 60000 then bif Ba a0.2.2.2.1.1 0 1000000000 then bif I6 a0.2.2.2.1 then bif Ba a0.2.2.2.1.2.2.2.1 0 60000 then bif Ba a0.2.2.2.2.1 0 (Bv a0.2.1) then bif Ba a0.2.2.2.2.2.1 0 a0.2.2.2.2.1 then bif Gq a0.2.2.2.2.2.2.1 then some ((decide (Qb a0.2.2.2.2.2.2.1 a0.1≤IntKind.i64.wrap (Bv a0.2.1 - 1)),()),()) else some ((false,()),()) else some ((false,()),()) else some ((false,()),()) else some ((false,()),()) else some ((false,()),()) else some ((false,()),()) else some ((false,()),()) else some ((false,()),()) else some ((false,()),())
theorem Avf (a0:E5):Ux a0=some (((H3 a0),()),(())):=by
 unfold Ux H3 Au
 simp only [Bv,Ba,I6,Gq,Qb,gt_iff_lt,Vp,Bvj]
theorem Qk:Bs Tryz.prog 117 Ma:=
 A3 (pat:=Dp) [] Hn (A5 (l:=[(95,Dm),(96,O9),(102,z6),(150,I5),(175,Rq)]) ⟨D2,R6,Aj1,Qi,Ws,trivial⟩) trivial Tryz.func117 (de:=fun x=>Ux x.1) (fun x r h=>(Avf x.1).trans h) fun _=>by kernel_rfl
def R8 (s:E5):Bool:=Rm s
def A4s:Gc:=⟨[.rd Yf],[some 10],[.rd .bool],[none]⟩
def Akt:SD:=⟨A4s,fun x=>some (((R8 x.1),()),(()))⟩
def d7 (a0:E5):Option ((((Bool)×Unit)×(Unit))):=
 bif a0.1==0 then bif a0.2.1==0 then bif a0.2.2.1==0 then bif a0.2.2.2.1.1==0&&(a0.2.2.2.1.2.1==0&&(a0.2.2.2.1.2.2.1==0&&(a0.2.2.2.1.2.2.2.1==0&&true))) then bif a0.2.2.2.2.1==0 then bif a0.2.2.2.2.2.1==0 then some ((nI (List.length a0.2.2.2.2.2.2.1.1)==0,()),()) else some ((false,()),()) else some ((false,()),()) else some ((false,()),()) else some ((false,()),()) else some ((false,()),()) else some ((false,()),())
theorem A4t (a0:E5):d7 a0=some (((R8 a0),()),(())):=by
 unfold d7 R8 Rm
 simp only [Bvj,Bool.and_true]
theorem A4u:Bs Tryz.prog 156 Akt:=
 A3 (pat:=Dp) [] Hn (A5 (l:=[]) trivial) trivial Tryz.func156 (de:=fun x=>d7 x.1) (fun x r h=>(A4t x.1).trans h) fun _=>by kernel_rfl
def H4 (w:Bg):Bool:=Bf w
def Avg:Gc:=⟨[.rd Gv],[some 16],[.rd .bool],[none]⟩
def Ql:SD:=⟨Avg,fun x=>some (((H4 x.1),()),(()))⟩
def Uy:Tb:=tb [(94,Hz),(95,Dm),(117,Ma),(150,I5),(156,Akt)]
def Co:Nat→C2×(Nat→C2):=F0 [(7,⟨[.sl 68 0 C8,.boxSl 1 1 .str,.boxSl 1 2 Em,.boxSl 1 13 Ax,.boxSl 1 14 C8,.boxSl 1 15 .str],[(1,.lf (.ptr 0 0)),(68,.lf (.d (.sl C8))),(69,.lf (.d tI)),(70,.lf (.d tI))],[.box 36 [.d Gv]]⟩,[(2,⟨[.boxSl 1 1 .str,.boxSl 1 2 Em,.boxSl 1 13 Ax,.boxSl 1 14 C8,.boxSl 1 15 .str],[(1,.lf (.ptr 0 0))],[.box 36 [.d Gv]]⟩),(1,⟨[],[(2,.lf (.d .bool))],[]⟩)]),(13,⟨[.sl 79 0 .str],[(79,.lf (.d (.sl .str))),(80,.lf (.d tI)),(81,.lf (.d tI))],[]⟩,[(4,p0),(1,⟨[],[(2,.lf (.d .bool))],[]⟩)])]
def Z3:Code:=(At (Bb Tryz.f64)).getD 0 .skip
def Xx:Code:=(At (Bb Tryz.f64)).getD 1 .skip
def Ce (v79:List Aa) (v80 v81:Int):Nat:=(v80 - v81).toNat + 1
def Iz {R:Type}  (NX:((List Aa)×(Int)×(Int)×Unit)→Option R) (X4:(Unit)→Option R) (X1:((Bool)×Unit)→Option R) (v79:List Aa) (v80:Int) (v81:Int):Option R:=
 bif decide (v81 < v80) then bif decide (0≤v81) then bif decide (v81 < nI v79.length) then bif nI (ByteArray.size (v79.getD v81.toNat (Ad))) != 64 then X1 (false,()) else NX (v79,v80,IntKind.i64.wrap (v81 + 1),()) else none else none else X4 PUnit.unit
def Bj:Nat→(List Aa)→(Int)→(Int) →  Option ((Unit) ⊕ ((Bool)×Unit))
 | 0,_,_,_=>none
 | m + 1,v79,v80,v81=>Iz  (fun d=>Bj m d.1 d.2.1 d.2.2.1) (fun d=>some (.inl (d))) (fun d=>some (.inr (d))) v79 v80 v81
def Amk (d:(List Aa)×(Int)×(Int)×Unit):Option ((Unit) ⊕ ((Bool)×Unit)):=(Ac (Ac (Ac Ae))) (Bj ((Ac (Ac (Ac Ae))) Ce d)) d
def Db (v68:List B5) (v69 v70:Int) (b0:Bg):Nat:=(v69 - v70).toNat + 1
def Jv {R:Type}  (NX:((List B5)×(Int)×(Int)×Bg×Unit)→Option R) (X2:(Bg×Unit)→Option R) (X1:((Bool)×Unit)→Option R) (v68:List B5) (v69:Int) (v70:Int) (b0:Bg):Option R:=
 bif decide (v70 < v69) then bif decide (0≤v70) then bif decide (v70 < nI v68.length) then bif !Gq (v68.getD v70.toNat ([],())) then X1 (false,()) else NX (v68,v69,IntKind.i64.wrap (v70 + 1),b0,()) else none else none else X2 (b0,())
def B1:Nat→(List B5)→(Int)→(Int)→Bg →  Option ((Bg×Unit) ⊕ ((Bool)×Unit))
 | 0,_,_,_,_=>none
 | m + 1,v68,v69,v70,b0=>Jv  (fun d=>B1 m d.1 d.2.1 d.2.2.1 d.2.2.2.1) (fun d=>some (.inl (d))) (fun d=>some (.inr (d))) v68 v69 v70 b0
def An4 (d:(List B5)×(Int)×(Int)×Bg×Unit):Option ((Bg×Unit) ⊕ ((Bool)×Unit)):=(u4 Ae) (B1 ((u4 Ae) Db d)) d
def Uz (a0:Bg):Option ((((Bool)×Unit)×(Unit))):=
 bif !Ba a0.1 1 8 then some ((false,()),()) else bif !F4 a0.2.1 then some ((false,()),()) else bif !Ba (nI (List.length a0.2.2.2.2.1)) 1 200 then some ((false,()),()) else bif decide (nI (List.length a0.2.2.2.2.2.1) > 2000) then some ((false,()),()) else bif a0.2.2.1 then bif !H3 a0.2.2.2.1 then some ((false,()),()) else bif a0.2.2.2.1.1 != a0.1 then some ((false,()),()) else bif a0.2.2.2.1.2.1 != nI (List.length a0.2.1.1) then some ((false,()),()) else bif !a0.2.2.1 then bif !R8 a0.2.2.2.1 then some ((false,()),()) else ((fun d=>B1 (Db d.1 d.2.1 d.2.2.1 d.2.2.2.1) d.1 d.2.1 d.2.2.1 d.2.2.2.1) (a0.2.2.2.2.1,nI (List.length a0.2.2.2.2.1),0,a0,())).bind fun val=>Bx (fun d=>((fun d=>Bj (Ce d.1 d.2.1 d.2.2.1) d.1 d.2.1 d.2.2.1) (d.1.2.2.2.2.2.1,nI (List.length d.1.2.2.2.2.2.1),0,())).bind fun val=>Bx (fun d=>some ((true,()),())) (fun d=>some (d,())) val) (fun d=>some (d,())) val else ((fun d=>B1 (Db d.1 d.2.1 d.2.2.1 d.2.2.2.1) d.1 d.2.1 d.2.2.1 d.2.2.2.1) (a0.2.2.2.2.1,nI (List.length a0.2.2.2.2.1),0,a0,())).bind fun val=>Bx (fun d=>((fun d=>Bj (Ce d.1 d.2.1 d.2.2.1) d.1 d.2.1 d.2.2.1) (d.1.2.2.2.2.2.1,nI (List.length d.1.2.2.2.2.2.1),0,())).bind fun val=>Bx (fun d=>some ((true,()),())) (fun d=>some (d,())) val) (fun d=>some (d,())) val else bif !a0.2.2.1 then bif !R8 a0.2.2.2.1 then some ((false,()),()) else ((fun d=>B1 (Db d.1 d.2.1 d.2.2.1 d.2.2.2.1) d.1 d.2.1 d.2.2.1 d.2.2.2.1) (a0.2.2.2.2.1,nI (List.length a0.2.2.2.2.1),0,a0,())).bind fun val=>Bx (fun d=>((fun d=>Bj (Ce d.1 d.2.1 d.2.2.1) d.1 d.2.1 d.2.2.1) (d.1.2.2.2.2.2.1,nI (List.length d.1.2.2.2.2.2.1),0,())).bind fun val=>Bx (fun d=>some ((true,()),())) (fun d=>some (d,())) val) (fun d=>some (d,())) val else ((fun d=>B1 (Db d.1 d.2.1 d.2.2.1 d.2.2.2.1) d.1 d.2.1 d.2.2.1 d.2.2.2.1) (a0.2.2.2.2.1,nI (List.length a0.2.2.2.2.1),0,a0,())).bind fun val=>Bx (fun d=>((fun d=>Bj (Ce d.1 d.2.1 d.2.2.1) d.1 d.2.1 d.2.2.1) (d.1.2.2.2.2.2.1,nI (List.length d.1.2.2.2.2.2.1),0,())).bind fun val=>Bx (fun d=>some ((true,()),())) (fun d=>some (d,())) val) (fun d=>some (d,())) val
theorem Bnv (xs:List B5) (h:xs.length≤200) (b0:Bg):
  B1 (Db xs (nI xs.length) 0 b0) xs (nI xs.length) 0 b0=
  some (bif (List.range' 0 xs.length).all (fun i=>Ak (xs.getD i Ut)) then .inl (b0,()) else .inr (false,())):=by
 have hL:=O1 (n:=xs.length) (fun i=>Ak (xs.getD i Ut)) (g:=fun m i=>B1 m xs (nI xs.length) i b0) (ok:=.inl (b0,())) (bad:=.inr (false,())) (fun m i hi=>by
  show B1 (m + 1) xs (nI xs.length) i b0=_
  simp only [B1,Jv]
  rw [Xv hi,G9,wI (show i < 4611686018427387904 by omega),En]
  show (bif !Ak (xs.getD i Ut) then _ else _)=_
  cases Ak (xs.getD i Ut)<;>rfl) (fun m=>by
  show B1 (m + 1) xs (nI xs.length) (xs.length:Int) b0=_
  simp only [B1,Jv]
  rw [Od]
  rfl) (Db xs (nI xs.length) 0 b0) 0 (by omega) (by simp [Db,nI])
 exact hL
theorem A9z (xs:List Aa) (h:xs.length≤2000):Bj (Ce xs (nI xs.length) 0) xs (nI xs.length) 0=
  some (bif (List.range' 0 xs.length).all (fun i=>decide ((xs.getD i z0).size=64)) then .inl () else .inr (false,())):=by
 have hL:=O1 (n:=xs.length) (fun i=>decide ((xs.getD i z0).size=64)) (g:=fun m i=>Bj m xs (nI xs.length) i) (ok:=.inl ()) (bad:=.inr (false,())) (fun m i hi=>by
  show Bj (m + 1) xs (nI xs.length) i=_
  simp only [Bj,Iz]
  have e:(nI (ByteArray.size (List.getD xs i (Ad))) != 64)=!decide ((xs.getD i z0).size=64):=Bqs (xs.getD i z0).size 64
  rw [Xv hi,G9,wI (show i < 4611686018427387904 by omega),En,e]
  cases decide ((xs.getD i z0).size=64)<;>rfl) (fun m=>by
  show Bj (m + 1) xs (nI xs.length) (xs.length:Int)=_
  simp only [Bj,Iz]
  rw [Od]
  rfl) (Ce xs (nI xs.length) 0) 0 (by omega) (by simp [Ce,nI])
 exact hL
theorem Avh (a0:Bg):Uz a0=some (((H4 a0),()),(())):=by
 unfold Uz H4 Bf
 show (bif !Bw a0.1 1 8 then _ else bif !Ar a0.2.1 then _ else bif !Bw (nI a0.2.2.2.2.1.length) 1 200 then _ else _)=_
 cases Bw a0.1 1 8 with
 | false=>rfl
 | true=>
  cases Ar a0.2.1 with
  | false=>rfl
  | true=>
   cases hp:Bw (nI a0.2.2.2.2.1.length) 1 200 with
   | false=>rfl
   | true=>
    have hpl:a0.2.2.2.2.1.length≤200:=by have:=(Cv hp).2; simp only [nI] at this; omega
    have e1:decide (nI a0.2.2.2.2.2.1.length > 2000)=!decide (a0.2.2.2.2.2.1.length≤2000):=Ani _ 2000
    rw [e1]
    cases hw:decide (a0.2.2.2.2.2.1.length≤2000) with
    | false=>rfl
    | true=>
     have hwl:=Io hw
     simp only [Bool.not_true,Bool.true_and,cond_false]
     have key:∀ b:Bool,(bif b then (bif c9 a0 then (bif M9 a0 then some ((true,()),()) else some ((false,()),())) else some ((false,()),())) else some ((false,()),()))=(some ((b&&(c9 a0&&M9 a0),()),()):Option ((Bool×Unit)×Unit)):=fun b=>by
      cases b<;>cases c9 a0<;>cases M9 a0<;>rfl
     rw [← key]
     simp only [Bnv _ hpl,Option.bind_some]
     show _=(bif Rb a0 then (bif c9 a0 then (bif M9 a0 then _ else _) else _) else _)
     unfold Rb
     have hP:c9 a0=(List.range' 0 a0.2.2.2.2.1.length).all (fun i=>Ak (a0.2.2.2.2.1.getD i Ut)):=rfl
     have hW:M9 a0=(List.range' 0 a0.2.2.2.2.2.1.length).all (fun i=>decide ((a0.2.2.2.2.2.1.getD i z0).size=64)):=rfl
     rw [hP,hW]
     cases hu:a0.2.2.1 with
     | true=>
      simp only [cond_true,Bool.not_true,cond_false]
      show (bif !Au a0.2.2.2.1 then _ else _)=_
      have w1:(a0.2.2.2.1.1 != a0.1)=!(a0.2.2.2.1.1==a0.1):=rfl
      have w2:(a0.2.2.2.1.2.1 != nI a0.2.1.1.length)=!(a0.2.2.2.1.2.1==nI a0.2.1.1.length):=rfl
      rw [w1,w2]
      cases Au a0.2.2.2.1 with
      | false=>rfl
      | true=>
       cases (a0.2.2.2.1.1==a0.1) with
       | false=>rfl
       | true=>
        cases (a0.2.2.2.1.2.1==nI a0.2.1.1.length) with
        | false=>rfl
        | true=>
         cases (List.range' 0 a0.2.2.2.2.1.length).all (fun i=>Ak (a0.2.2.2.2.1.getD i Ut)) with
         | false=>rfl
         | true=>
          show (Bj (Ce a0.2.2.2.2.2.1 (nI a0.2.2.2.2.2.1.length) 0) a0.2.2.2.2.2.1 (nI a0.2.2.2.2.2.1.length) 0).bind _=_
          rw [A9z _ hwl]
          cases (List.range' 0 a0.2.2.2.2.2.1.length).all (fun i=>decide ((a0.2.2.2.2.2.1.getD i z0).size=64))<;>rfl
     | false=>
      simp only [cond_true,Bool.not_false,cond_false]
      show (bif !Rm a0.2.2.2.1 then _ else _)=_
      cases Rm a0.2.2.2.1 with
      | false=>rfl
      | true=>
       cases (List.range' 0 a0.2.2.2.2.1.length).all (fun i=>Ak (a0.2.2.2.2.1.getD i Ut)) with
       | false=>rfl
       | true=>
        show (Bj (Ce a0.2.2.2.2.2.1 (nI a0.2.2.2.2.2.1.length) 0) a0.2.2.2.2.2.1 (nI a0.2.2.2.2.2.1.length) 0).bind _=_
        rw [A9z _ hwl]
        cases (List.range' 0 a0.2.2.2.2.2.1.length).all (fun i=>decide ((a0.2.2.2.2.2.1.getD i z0).size=64))<;>rfl
def Z4 {R:Type} (k:Kt R):=(Bx (I3 (Co 7) (.exit 0) 2 k) (I3 (Co 7) .ret 1 k))
def Xy {R:Type} (k:Kt R):=(Bx (I3 (Co 13) (.exit 2) 4 k) (I3 (Co 13) .ret 1 k))
def Wt {R:Type}:Lt R Co:=(Ea (pat:=Co) 7 (fun d k=>(An4 d).bind (Z4 k)) (Ea (pat:=Co) 13 (fun d k=>(Amk d).bind (Xy k)) Hn))
theorem U0:A2 Tryz.prog Uy:=A5 ⟨J8,D2,Qk,Qi,A4u,trivial⟩
theorem Aml {R:Type}:A4 Tryz.prog R 89 0 Co Wt Xx:=
 B8 (cfg:=⟨Uy,0,89,Co⟩) 13 [] (fun NX X d=>(Ac (Ac (Ac Ae))) (Iz  NX (fun e=>X (.inl (e))) (fun e=>X (.inr (e)))) d) (fun m d=>(Ac (Ac (Ac Ae))) (Bj m) d) (fun d=>(Ac (Ac (Ac Ae))) Ce d) Xy U0 trivial (fun f NX d=>by simp only [u4,Ac,Ae]; unfold Iz; simp only [nb])
theorem An5 {R:Type}:A4 Tryz.prog R 89 0 Co Wt Z3:=
 B8 (cfg:=⟨Uy,0,89,Co⟩) 7 [] (fun NX X d=>(u4 Ae) (Jv  NX (fun e=>X (.inl (e))) (fun e=>X (.inr (e)))) d) (fun m d=>(u4 Ae) (B1 m) d) (fun d=>(u4 Ae) Db d) Z4 U0 trivial (fun f NX d=>by simp only [u4,Ac,Ae]; unfold Jv; simp only [nb])
theorem U1:Bs Tryz.prog 64 Ql:=
 A3 (pat:=Co) [Z3,Xx] Wt U0 ⟨An5,Aml,trivial⟩ Tryz.func64 (de:=fun x=>Uz x.1) (fun x r h=>(Avh x.1).trans h) fun _=>by kernel_rfl
def Of (w:Bg):Aa:=M2 w
def A90:Gc:=⟨[.rd Gv],[some 16],[.rd .str],[none]⟩
def An6:SD:=⟨A90,fun x=>some (((Of x.1),()),(()))⟩
def Aba:Tb:=tb [(53,O8),(64,Ql)]
def Fj:Nat→C2×(Nat→C2):=F0 [(6,⟨[.sl 15 0 .str,.boxSl 1 1 .str,.boxSl 1 2 Em,.boxSl 1 13 Ax,.boxSl 1 14 C8,.boxSl 1 15 .str],[(1,.lf (.ptr 0 0)),(3,.lf (.row 1)),(15,.lf (.d (.sl .str))),(16,.lf (.d tI)),(17,.lf (.d tI))],[.box 36 [.d Gv],.map .bool]⟩,[(2,⟨[.boxSl 1 1 .str,.boxSl 1 2 Em,.boxSl 1 13 Ax,.boxSl 1 14 C8,.boxSl 1 15 .str],[(1,.lf (.ptr 0 0)),(3,.lf (.row 1))],[.box 36 [.d Gv],.map .bool]⟩)]),(11,⟨[.sl 26 0 .str,.boxSl 1 1 .str,.boxSl 1 2 Em,.boxSl 1 13 Ax,.boxSl 1 14 C8,.boxSl 1 15 .str],[(1,.lf (.ptr 0 0)),(3,.lf (.row 1)),(26,.lf (.d (.sl .str))),(27,.lf (.d tI)),(28,.lf (.d tI))],[.box 36 [.d Gv],.map .bool]⟩,[(4,p0),(1,⟨[],[(2,.lf (.d .str))],[]⟩)])]
def Ahc:Code:=(At (Bb Tryz.f13)).getD 0 .skip
def Adz:Code:=(At (Bb Tryz.f13)).getD 1 .skip
def Ka (v26:List Aa) (v27 v28:Int) (b0:Bg) (m1:List (Aa×Bool)):Nat:=(v27 - v28).toNat + 1
def Nr {R:Type}  (NX:((List Aa)×(Int)×(Int)×Bg×(List (Aa×Bool))×Unit)→Option R) (X4:(Unit)→Option R) (X1:((Aa)×Unit)→Option R) (v26:List Aa) (v27:Int) (v28:Int) (b0:Bg) (m1:List (Aa×Bool)):Option R:=
 bif decide (v28 < v27) then bif decide (0≤v28) then bif decide (v28 < nI v26.length) then bif (Ai (v26.getD v28.toNat (Ad)) b0.1).2 then bif !R1 (v26.getD v28.toNat (Ad)) m1 then X1 (v26.getD v28.toNat (Ad),()) else NX (v26,v27,IntKind.i64.wrap (v28 + 1),b0,m1,()) else NX (v26,v27,IntKind.i64.wrap (v28 + 1),b0,m1,()) else none else none else X4 PUnit.unit
def D5:Nat→(List Aa)→(Int)→(Int)→Bg→(List (Aa×Bool)) →  Option ((Unit) ⊕ ((Aa)×Unit))
 | 0,_,_,_,_,_=>none
 | m + 1,v26,v27,v28,b0,m1=>Nr  (fun d=>D5 m d.1 d.2.1 d.2.2.1 d.2.2.2.1 d.2.2.2.2.1) (fun d=>some (.inl (d))) (fun d=>some (.inr (d))) v26 v27 v28 b0 m1
def Axz (d:(List Aa)×(Int)×(Int)×Bg×(List (Aa×Bool))×Unit):Option ((Unit) ⊕ ((Aa)×Unit)):=(u4 (Ac Ae)) (D5 ((u4 (Ac Ae)) Ka d)) d
def Lj (v15:List Aa) (v16 v17:Int) (b0:Bg) (m1:List (Aa×Bool)):Nat:=(v16 - v17).toNat + 1
def Pa {R:Type}  (NX:((List Aa)×(Int)×(Int)×Bg×(List (Aa×Bool))×Unit)→Option R) (X2:(Bg×(List (Aa×Bool))×Unit)→Option R) (v15:List Aa) (v16:Int) (v17:Int) (b0:Bg) (m1:List (Aa×Bool)):Option R:=
 bif decide (v17 < v16) then bif decide (0≤v17) then bif decide (v17 < nI v15.length) then NX (v15,v16,IntKind.i64.wrap (v17 + 1),b0,Tk (v15.getD v17.toNat (Ad)) true m1,()) else none else none else X2 (b0,m1,())
def Ev:Nat→(List Aa)→(Int)→(Int)→Bg→(List (Aa×Bool)) →  Option (Bg×(List (Aa×Bool))×Unit)
 | 0,_,_,_,_,_=>none
 | m + 1,v15,v16,v17,b0,m1=>Pa  (fun d=>Ev m d.1 d.2.1 d.2.2.1 d.2.2.2.1 d.2.2.2.2.1) (fun d=>some (d)) v15 v16 v17 b0 m1
def A1i (d:(List Aa)×(Int)×(Int)×Bg×(List (Aa×Bool))×Unit):Option (Bg×(List (Aa×Bool))×Unit):=(u4 (Ac Ae)) (Ev ((u4 (Ac Ae)) Lj d)) d
def Abb (a0:Bg):Option ((((Aa)×Unit)×(Unit))):=
 bif !H4 a0 then some ((Ad,()),()) else ((fun d=>Ev (Lj d.1 d.2.1 d.2.2.1 d.2.2.2.1 d.2.2.2.2.1) d.1 d.2.1 d.2.2.1 d.2.2.2.1 d.2.2.2.2.1) (a0.2.2.2.2.2.1,nI (List.length a0.2.2.2.2.2.1),0,a0,[],())).bind fun val=>((fun d=>D5 (Ka d.1 d.2.1 d.2.2.1 d.2.2.2.1 d.2.2.2.2.1) d.1 d.2.1 d.2.2.1 d.2.2.2.1 d.2.2.2.2.1) (val.1.2.1.1,nI (List.length val.1.2.1.1),0,val)).bind fun val=>Bx (fun d=>some ((Ad,()),())) (fun d=>some (d,())) val
theorem Bht (w:Bg) (W:List Aa) (hW:W.length≤2000):
  Ev (Lj W (nI W.length) 0 w []) W (nI W.length) 0 w []=some (w,C9 (fun _ y m=>Tk y true m) 0 W [],()):=by
 have hL:=E4 (xs:=W) z0 (fun _ _=>True) (fun _ y m=>Tk y true m) (g:=fun m i M=>Ev m W (nI W.length) i w M) (ok:=fun M=>(w,M,())) (fun m i M hi _=>by
   show Ev (m + 1) W (nI W.length) i w M=_
   simp only [Ev,Pa]
   rw [Xv hi,G9,wI (show i < 4611686018427387904 by omega),En]
   rfl) (fun _ _ _ _=>trivial) (fun m M _=>by
   show Ev (m + 1) W (nI W.length) (W.length:Int) w M=_
   simp only [Ev,Pa]
   rw [Od]
   rfl) (Lj W (nI W.length) 0 w []) 0 [] (by omega) (by simp [Lj,nI]) trivial
 rw [List.drop_zero] at hL
 exact hL
theorem Bcy (w:Bg) (M:List (Aa×Bool)) (hb:w.2.1.1.length≤200):
  D5 (Ka w.2.1.1 (nI w.2.1.1.length) 0 w M) w.2.1.1 (nI w.2.1.1.length) 0 w M=some (M6 (fun x=>(Av x w.1).2&&!R1 x M) (fun x=>.inr (x,())) (.inl ()) w.2.1.1):=by
 have hL:=A0u (xs:=w.2.1.1) z0 (fun x=>(Av x w.1).2&&!R1 x M) (fun x=>.inr (x,())) (g:=fun m i=>D5 m w.2.1.1 (nI w.2.1.1.length) i w M) (ok:=.inl ()) (fun m i hi=>by
   show D5 (m + 1) w.2.1.1 (nI w.2.1.1.length) i w M=_
   simp only [D5,Nr]
   rw [Xv hi,G9,wI (show i < 4611686018427387904 by omega),En]
   show (bif (Av (List.getD w.2.1.1 i z0) w.1).2 then (bif !R1 (List.getD w.2.1.1 i z0) M then _ else _) else _)=_
   cases (Av (List.getD w.2.1.1 i z0) w.1).2<;>cases R1 (List.getD w.2.1.1 i z0) M<;>rfl) (fun m=>by
   show D5 (m + 1) w.2.1.1 (nI w.2.1.1.length) (w.2.1.1.length:Int) w M=_
   simp only [D5,Nr]
   rw [Od]
   rfl) (Ka w.2.1.1 (nI w.2.1.1.length) 0 w M) 0 (by omega) (by simp [Ka,nI])
 rw [List.drop_zero] at hL
 exact hL
theorem A91 (a0:Bg):Abb a0=some (((Of a0),()),(())):=by
 unfold Abb Of M2
 show (bif !Bf a0 then _ else _)=_
 cases hv:Bf a0 with
 | false=>rfl
 | true=>
  obtain ⟨h1,h2,_⟩:=x9 hv
  simp only [Bool.not_true,cond_false,cond_true]
  refine Qe (Bht a0 a0.2.2.2.2.2.1 h2) ?_
  dsimp only
  refine Qe (Bcy a0 _ (Ix h1).n200) ?_
  rw [Ur (Bx _ _),Ur (fun r:Aa=>some ((r,()),()))]
  have:(fun x=>(Av x a0.1).2&&!R1 x (C9 (fun _ y m=>Tk y true m) 0 a0.2.2.2.2.2.1 []))=fun x=>(Av x a0.1).2&&!inL a0.2.2.2.2.2.1 x:=funext fun x=>by
   rw [Bfi]
   show ((Av x a0.1).2&&!(inL a0.2.2.2.2.2.1 x || false))=_
   rw [Bool.or_false]
  rw [this]
  rfl
def Ahd {R:Type} (k:Kt R):=(I3 (Fj 6) (.exit 0) 2 k)
def Ad0 {R:Type} (k:Kt R):=(Bx (I3 (Fj 11) (.exit 2) 4 k) (I3 (Fj 11) .ret 1 k))
def Afv {R:Type}:Lt R Fj:=(Ea (pat:=Fj) 6 (fun d k=>(A1i d).bind (Ahd k)) (Ea (pat:=Fj) 11 (fun d k=>(Axz d).bind (Ad0 k)) Hn))
theorem Abc:A2 Tryz.prog Aba:=A5 ⟨S3,U1,trivial⟩
theorem Ax0 {R:Type}:A4 Tryz.prog R 48 0 Fj Afv Adz:=
 B8 (cfg:=⟨Aba,0,48,Fj⟩) 11 [] (fun NX X d=>(u4 (Ac Ae)) (Nr  NX (fun e=>X (.inl (e))) (fun e=>X (.inr (e)))) d) (fun m d=>(u4 (Ac Ae)) (D5 m) d) (fun d=>(u4 (Ac Ae)) Ka d) Ad0 Abc trivial (fun f NX d=>by simp only [u4,Ac,Ae]; unfold Nr; simp only [nb])
theorem A1j {R:Type}:A4 Tryz.prog R 48 0 Fj Afv Ahc:=
 B8 (cfg:=⟨Aba,0,48,Fj⟩) 6 [] (fun NX X d=>(u4 (Ac Ae)) (Pa  NX X) d) (fun m d=>(u4 (Ac Ae)) (Ev m) d) (fun d=>(u4 (Ac Ae)) Lj d) Ahd Abc trivial (fun f NX d=>by simp only [u4,Ac,Ae]; unfold Pa; simp only [nb])
theorem A92:Bs Tryz.prog 13 An6:=
 A3 (pat:=Fj) [Ahc,Adz] Afv Abc ⟨A1j,Ax0,trivial⟩ Tryz.func13 (de:=fun x=>Abb x.1) (fun x r h=>(A91 x.1).trans h) fun _=>by kernel_rfl
def A7 (n:Int):Int:=Al n
def A93:Gc:=⟨[.rd tI],[none],[.rd tI],[none]⟩
def Pb:SD:=⟨A93,fun x=>some (((A7 x.1),()),(()))⟩
def Abd (a0:Int):Option ((((Int)×Unit)×(Unit))):=
 bif decide (a0 < 8) then some ((0,()),()) else bif decide (a0 > 200) then some ((0,()),()) else some ((IntKind.i64.wrap ((IntKind.i64.wrap (a0 - 2)).tdiv 2),()),())
theorem A94 (a0:Int):Abd a0=some (((A7 a0),()),(())):=by
 unfold Abd A7 Al
 rw [A8q]
 cases h:Bw a0 8 200 with
 | false=>rfl
 | true=>
  obtain ⟨h1,h2⟩:=Cv h
  rw [A3j h1 h2]
  rfl
theorem R9:Bs Tryz.prog 40 Pb:=
 A3 (pat:=Dp) [] Hn (A5 (l:=[]) trivial) trivial Tryz.func40 (de:=fun x=>Abd x.1) (fun x r h=>(A94 x.1).trans h) fun _=>by kernel_rfl
def Sa (k:Aa):Bool:=Vn k
def A4v:Gc:=⟨[.rd .str],[none],[.rd .bool],[none]⟩
def d8:SD:=⟨A4v,fun x=>some (((Sa x.1),()),(()))⟩
def d9 (a0:Aa):Option ((((Bool)×Unit)×(Unit))):=
 bif decide (nI a0.size≥1) then some ((decide (nI a0.size≤20),()),()) else some ((false,()),())
theorem A4w (a0:Aa):d9 a0=some ((Sa a0,()),()):=by
 unfold d9 Sa Vn Bw
 by_cases h:(a0.size:Int)≥1
 ·have:decide ((1:Int)≤(a0.size:Int))=true:=by simpa using h
  simp [nI,this]
 ·have h':¬ (1:Int)≤(a0.size:Int):=h
  simp [nI,h']
theorem Aku:Bs Tryz.prog 158 d8:=
 A3 (pat:=Dp) [] Hn (A5 (l:=[]) trivial) trivial Tryz.func158 (de:=fun x=>d9 x.1) (fun x r h=>(A4w x.1).trans h) fun _=>by kernel_rfl
def Kb (b:List Be):Bool:=A0 b
def Avi:Gc:=⟨[.rd (.sl Do)],[none],[.rd .bool],[none]⟩
def Qm:SD:=⟨Avi,fun x=>some (((Kb x.1),()),(()))⟩
def Abe:Tb:=tb [(158,d8)]
def He:Nat→C2×(Nat→C2):=F0 [(5,⟨[.sl 0 0 Do],[(0,.lf (.d (.sl Do))),(3,.lf (.d tI))],[]⟩,[(2,p0),(1,⟨[],[(2,.lf (.d .bool))],[]⟩)])]
def Z5:Code:=(At (Bb Tryz.f122)).getD 0 .skip
def Jw (v0:List Be) (v3:Int):Nat:=((v0.length:Int) - v3).toNat + 1
def Jx {R:Type}  (NX:((List Be)×(Int)×Unit)→Option R) (X2:(Unit)→Option R) (X1:((Bool)×Unit)→Option R) (v0:List Be) (v3:Int):Option R:=
 bif decide (v3 < nI v0.length) then bif decide (0≤v3) then bif decide (v3 < nI v0.length) then bif !Sa (v0.getD v3.toNat (Ad,Ad,false,())).1 then X1 (false,()) else bif decide (0≤v3) then bif decide (v3 < nI v0.length) then bif decide (nI (ByteArray.size (v0.getD v3.toNat (Ad,Ad,false,())).2.1) > 100) then X1 (false,()) else bif decide (0≤v3) then bif decide (v3 < nI v0.length) then bif (v0.getD v3.toNat (Ad,Ad,false,())).2.2.1 then bif decide (0≤v3) then bif decide (v3 < nI v0.length) then bif !ByteArray.toList (v0.getD v3.toNat (Ad,Ad,false,())).2.1==(Ad).toList then X1 (false,()) else NX (v0,IntKind.i64.wrap (v3 + 1),()) else none else none else NX (v0,IntKind.i64.wrap (v3 + 1),()) else none else none else none else none else none else none else X2 PUnit.unit
def Dc:Nat→(List Be)→(Int) →  Option ((Unit) ⊕ ((Bool)×Unit))
 | 0,_,_=>none
 | m + 1,v0,v3=>Jx  (fun d=>Dc m d.1 d.2.1) (fun d=>some (.inl (d))) (fun d=>some (.inr (d))) v0 v3
def An7 (d:(List Be)×(Int)×Unit):Option ((Unit) ⊕ ((Bool)×Unit)):=(Ac (Ac Ae)) (Dc ((Ac (Ac Ae)) Jw d)) d
def U2 (a0:List Be):Option ((((Bool)×Unit)×(Unit))):=
 bif decide (nI a0.length < 1) then some ((false,()),()) else bif decide (nI a0.length > 20) then some ((false,()),()) else ((fun d=>Dc (Jw d.1 d.2.1) d.1 d.2.1) (a0,0,())).bind fun val=>Bx (fun d=>some ((true,()),())) (fun d=>some (d,())) val
theorem Avj (a0:List Be):U2 a0=some (((Kb a0),()),(())):=by
 unfold U2 Kb A0
 have tl:ByteArray.toList (Ad)=[]:=by decide +kernel
 rw [A8q (nI (List.length a0))]
 show (bif Bw (a0.length:Int) 1 20 then _ else _)=_
 cases hin:Bw (a0.length:Int) 1 20 with
 | false=>rfl
 | true=>
  have hlen:a0.length≤20:=by have:=(Cv hin).2; omega
  have hL:=O1 (n:=a0.length) (fun i=>Tj (a0.getD i zC)) (g:=fun m i=>Dc m a0 i) (ok:=.inl ()) (bad:=.inr (false,())) (fun m i hi=>by
   show Dc (m + 1) a0 i=_
   simp only [Dc,Jx]
   rw [tl,Xv hi,G9,wI (show i < 4611686018427387904 by omega),En]
   have g1:decide (nI (ByteArray.size (List.getD a0 i (Ad,Ad,false,())).2.1) > 100)=!decide ((a0.getD i zC).2.1.size≤100):=Ani _ 100
   rw [g1]
   show (bif !Vn (a0.getD i zC).1 then _ else (bif _ then _ else (bif (a0.getD i zC).2.2.1 then (bif !((a0.getD i zC).2.1.toList==[]) then _ else _) else _)))=_
   unfold Tj
   cases Vn (a0.getD i zC).1<;>cases decide ((a0.getD i zC).2.1.size≤100)<;>cases (a0.getD i zC).2.2.1<;>cases ((a0.getD i zC).2.1.toList==[])<;>rfl) (fun m=>by
   show Dc (m + 1) a0 (a0.length:Int)=_
   simp only [Dc,Jx]
   rw [Od]
   rfl) (Jw a0 0) 0 (by omega) (by simp [Jw,nI])
  refine bi_ hL ?_
  rw [Nat.sub_zero]
  cases (List.range' 0 a0.length).all (fun i=>Tj (a0.getD i zC))<;>rfl
def Z6 {R:Type} (k:Kt R):=(Bx (I3 (He 5) (.exit 0) 2 k) (I3 (He 5) .ret 1 k))
def Ad1 {R:Type}:Lt R He:=(Ea (pat:=He) 5 (fun d k=>(An7 d).bind (Z6 k)) Hn)
theorem Abf:A2 Tryz.prog Abe:=A5 ⟨Aku,trivial⟩
theorem An8 {R:Type}:A4 Tryz.prog R 49 0 He Ad1 Z5:=
 B8 (cfg:=⟨Abe,0,49,He⟩) 5 [] (fun NX X d=>(Ac (Ac Ae)) (Jx  NX (fun e=>X (.inl (e))) (fun e=>X (.inr (e)))) d) (fun m d=>(Ac (Ac Ae)) (Dc m) d) (fun d=>(Ac (Ac Ae)) Jw d) Z6 Abf trivial (fun f NX d=>by simp only [u4,Ac,Ae]; unfold Jx; simp only [nb])
theorem U3:Bs Tryz.prog 122 Qm:=
 A3 (pat:=He) [Z5] Ad1 Abf ⟨An8,trivial⟩ Tryz.func122 (de:=fun x=>U2 x.1) (fun x r h=>(Avj x.1).trans h) fun _=>by kernel_rfl
def Ew (b:List Be):Aa:=Bh b
def Ax1:Gc:=⟨[.rd (.sl Do)],[none],[.rd .str],[none]⟩
def Ns:SD:=⟨Ax1,fun x=>some (((Ew x.1),()),(()))⟩
def Ad2:Tb:=tb [(122,Qm)]
def Kc:Nat→C2×(Nat→C2):=F0 [(6,⟨[.sl 0 0 Do,.row 3 0 5 (.int .u8)],[(0,.lf (.d (.sl Do))),(3,.lf (.row 0)),(4,.lf (.d tI))],[.row 5 (.int .u8)]⟩,[(2,⟨[.row 3 0 5 (.int .u8)],[(3,.lf (.row 0))],[.row 5 (.int .u8)]⟩)])]
def l4:Code:=(At (Bb Tryz.f125)).getD 0 .skip
def Ky (v0:List Be) (v4:Int) (r0:List Int):Nat:=((v0.length:Int) - v4).toNat + 1
def Kz {R:Type}  (NX:((List Be)×(Int)×(List Int)×Unit)→Option R) (X2:((List Int)×Unit)→Option R) (v0:List Be) (v4:Int) (r0:List Int):Option R:=
 bif decide (v4 < nI v0.length) then bif decide (0≤v4) then bif decide (v4 < nI v0.length) then bif (v0.getD v4.toNat (Ad,Ad,false,())).2.2.1 then bif decide (0≤v4) then bif decide (v4 < nI v0.length) then bif decide ((r0.length + [1,IntKind.u8.wrap (nI (ByteArray.size (v0.getD v4.toNat (Ad,Ad,false,())).1))].length) * 1≤140737488355328) then bif decide (0≤v4) then bif decide (v4 < nI v0.length) then bif decide ((r0++[1,IntKind.u8.wrap (nI (ByteArray.size (v0.getD v4.toNat (Ad,Ad,false,())).1))]).length + ByteArray.size (v0.getD v4.toNat (Ad,Ad,false,())).1≤140737488355328) then NX (v0,IntKind.i64.wrap (v4 + 1),r0++[1,IntKind.u8.wrap (nI (ByteArray.size (v0.getD v4.toNat (Ad,Ad,false,())).1))]++Af (v0.getD v4.toNat (Ad,Ad,false,())).1,()) else none else none else none else none else none else none else bif decide (0≤v4) then bif decide (v4 < nI v0.length) then bif decide ((r0.length + [0,IntKind.u8.wrap (nI (ByteArray.size (v0.getD v4.toNat (Ad,Ad,false,())).1))].length) * 1≤140737488355328) then bif decide (0≤v4) then bif decide (v4 < nI v0.length) then bif decide ((r0++[0,IntKind.u8.wrap (nI (ByteArray.size (v0.getD v4.toNat (Ad,Ad,false,())).1))]).length + ByteArray.size (v0.getD v4.toNat (Ad,Ad,false,())).1≤140737488355328) then bif decide (0≤v4) then bif decide (v4 < nI v0.length) then bif decide (((r0++[0,IntKind.u8.wrap (nI (ByteArray.size (v0.getD v4.toNat (Ad,Ad,false,())).1))]++Af (v0.getD v4.toNat (Ad,Ad,false,())).1).length + [IntKind.u8.wrap (nI (ByteArray.size (v0.getD v4.toNat (Ad,Ad,false,())).2.1))].length) * 1≤140737488355328) then bif decide (0≤v4) then bif decide (v4 < nI v0.length) then bif decide ((r0++[0,IntKind.u8.wrap (nI (ByteArray.size (v0.getD v4.toNat (Ad,Ad,false,())).1))]++Af (v0.getD v4.toNat (Ad,Ad,false,())).1++[IntKind.u8.wrap (nI (ByteArray.size (v0.getD v4.toNat (Ad,Ad,false,())).2.1))]).length + ByteArray.size (v0.getD v4.toNat (Ad,Ad,false,())).2.1≤140737488355328) then NX (v0,IntKind.i64.wrap (v4 + 1),r0++[0,IntKind.u8.wrap (nI (ByteArray.size (v0.getD v4.toNat (Ad,Ad,false,())).1))]++Af (v0.getD v4.toNat (Ad,Ad,false,())).1++[IntKind.u8.wrap (nI (ByteArray.size (v0.getD v4.toNat (Ad,Ad,false,())).2.1))]++Af (v0.getD v4.toNat (Ad,Ad,false,())).2.1,()) else none else none else none else none else none else none else none else none else none else none else none else none else none else none else X2 (r0,())
def Dr:Nat→(List Be)→(Int)→(List Int) →  Option ((List Int)×Unit)
 | 0,_,_,_=>none
 | m + 1,v0,v4,r0=>Kz  (fun d=>Dr m d.1 d.2.1 d.2.2.1) (fun d=>some (d)) v0 v4 r0
def Arx (d:(List Be)×(Int)×(List Int)×Unit):Option ((List Int)×Unit):=(Ac (Ac (Ac Ae))) (Dr ((Ac (Ac (Ac Ae))) Ky d)) d
def Wu (a0:List Be):Option ((((Aa)×Unit)×(Unit))):=
 bif !Kb a0 then some ((Ad,()),()) else ((fun d=>Dr (Ky d.1 d.2.1 d.2.2.1) d.1 d.2.1 d.2.2.1) (a0,0,[],())).bind fun val=>some ((strOfNums val.1,()),())
theorem Ax2 (a0:List Be):Wu a0=some ((Ew a0,()),(())):=by
 unfold Wu Ew Bh
 show (bif !A0 a0 then _ else _)=_
 cases hv:A0 a0 with
 | false=>rfl
 | true=>
  obtain ⟨hlen,hok⟩:=Zh hv
  have hL:=Aq9 a0.length A8s (fun i r=>r++x6 (a0.getD i zC)) (g:=fun m i r=>Dr m a0 i r) (ok:=fun r=>(r,())) (fun m i r hi hr=>by
   show Dr (m + 1) a0 i r=_
   simp only [Dr,Kz]
   have hc:=hok i hi
   obtain ⟨k1,k2,k3⟩:=Ara hc
   rw [Xv hi,G9,wI (show i < 4611686018427387904 by omega),En]
   have hr1:=hr.1
   have eC:List.getD a0 i (Ad,Ad,false,())=a0.getD i zC:=rfl
   rw [eC]
   generalize a0.getD i zC=c at *
   rw [Bw0 _ (show c.1.size < 256 by omega),Bw0 _ (show c.2.1.size < 256 by omega)]
   simp only [Ef,List.length_cons,List.length_nil,Eu]
   rw [Ag (show (r.length + (0 + 1 + 1)) * 1≤140737488355328 by omega),Ag (show r.length + (0 + 1 + 1) + c.1.size≤140737488355328 by omega),Ag (show (r.length + (0 + 1 + 1) + c.1.size + (0 + 1)) * 1≤140737488355328 by omega),Ag (show r.length + (0 + 1 + 1) + c.1.size + (0 + 1) + c.2.1.size≤140737488355328 by omega)]
   unfold x6
   simp only [cond_true]
   cases c.2.2.1<;>simp only [cond_true,cond_false,List.append_assoc]) (fun m r _=>by
   show Dr (m + 1) a0 (a0.length:Int) r=_
   simp only [Dr,Kz]
   rw [Od]
   rfl) (fun i r hi hr=>hr.step (hok i hi)) a0.length (Ky a0 0 []) 0 [] (by omega) (by simp [Ky,nI]) ⟨by simp,rfl⟩
  rw [A8r x6 zC a0 a0.length 0 [] (by omega),List.nil_append,List.drop_zero] at hL
  refine bi_ hL ?_
  rfl
def l5 {R:Type} (k:Kt R):=(I3 (Kc 6) (.exit 0) 2 k)
def Ahe {R:Type}:Lt R Kc:=(Ea (pat:=Kc) 6 (fun d k=>(Arx d).bind (l5 k)) Hn)
theorem Ad3:A2 Tryz.prog Ad2:=A5 ⟨U3,trivial⟩
theorem Ary {R:Type}:A4 Tryz.prog R 70 0 Kc Ahe l4:=
 B8 (cfg:=⟨Ad2,0,70,Kc⟩) 6 [] (fun NX X d=>(Ac (Ac (Ac Ae))) (Kz  NX X) d) (fun m d=>(Ac (Ac (Ac Ae))) (Dr m) d) (fun d=>(Ac (Ac (Ac Ae))) Ky d) l5 Ad3 trivial (fun f NX d=>by simp only [u4,Ac,Ae]; unfold Kz; simp only [nb])
theorem Rr:Bs Tryz.prog 125 Ns:=
 A3 (pat:=Kc) [l4] Ahe Ad3 ⟨Ary,trivial⟩ Tryz.func125 (de:=fun x=>Wu x.1) (fun x r h=>(Ax2 x.1).trans h) fun _=>by kernel_rfl
def Gr (s:B5):Bool:=Ak s
def Avk:Gc:=⟨[.rd C8],[some 1],[.rd .bool],[none]⟩
def Mb:SD:=⟨Avk,fun x=>some (((Gr x.1),()),(()))⟩
def Abg:Tb:=tb [(158,d8)]
def Hf:Nat→C2×(Nat→C2):=F0 [(5,⟨[.boxSl 1 0 Ax],[(1,.lf (.ptr 0 0)),(3,.lf (.d tI))],[.box 31 [.d (.sl Ax)]]⟩,[(2,p0),(1,⟨[],[(2,.lf (.d .bool))],[]⟩)])]
def Z7:Code:=(At (Bb Tryz.f69)).getD 0 .skip
def Fk (v3:Int) (b0_0:List A1):Nat:=((b0_0.length:Int) - v3).toNat + 1
def Jy {R:Type}  (NX:((Int)×(List A1)×Unit)→Option R) (X2:(Unit)→Option R) (X1:((Bool)×Unit)→Option R) (v3:Int) (b0_0:List A1):Option R:=
 bif decide (v3 < nI b0_0.length) then bif decide (0≤v3) then bif decide (v3 < nI b0_0.length) then bif !Sa (b0_0.getD v3.toNat (Ad,Ad,())).1 then X1 (false,()) else bif decide (0≤v3) then bif decide (v3 < nI b0_0.length) then bif decide (nI (ByteArray.size (b0_0.getD v3.toNat (Ad,Ad,())).2.1) > 100) then X1 (false,()) else bif decide (v3 > 0) then bif decide (0≤IntKind.i64.wrap (v3 - 1)) then bif decide (IntKind.i64.wrap (v3 - 1) < nI b0_0.length) then bif decide (0≤v3) then bif decide (v3 < nI b0_0.length) then bif !Op.bytesLess (ByteArray.toList (b0_0.getD (IntKind.i64.wrap (v3 - 1)).toNat (Ad,Ad,())).1) (ByteArray.toList (b0_0.getD v3.toNat (Ad,Ad,())).1) then X1 (false,()) else NX (IntKind.i64.wrap (v3 + 1),b0_0,()) else none else none else none else none else NX (IntKind.i64.wrap (v3 + 1),b0_0,()) else none else none else none else none else X2 PUnit.unit
def Cl:Nat→(Int)→(List A1) →  Option ((Unit) ⊕ ((Bool)×Unit))
 | 0,_,_=>none
 | m + 1,v3,b0_0=>Jy  (fun d=>Cl m d.1 d.2.1) (fun d=>some (.inl (d))) (fun d=>some (.inr (d))) v3 b0_0
def An9 (d:(Int)×(List A1)×Unit):Option ((Unit) ⊕ ((Bool)×Unit)):=(Ac (Ac Ae)) (Cl ((Ac (Ac Ae)) Fk d)) d
def U4 (a0:B5):Option ((((Bool)×Unit)×(Unit))):=
 bif decide (nI (List.length a0.1) > 100) then some ((false,()),()) else ((fun d=>Cl (Fk d.1 d.2.1) d.1 d.2.1) (0,a0)).bind fun val=>Bx (fun d=>some ((true,()),())) (fun d=>some (d,())) val
theorem Avl (a0:B5):U4 a0=some ((Gr a0,()),()):=by
 unfold U4 Gr Ak
 have c1:decide (nI a0.1.length > 100)=!decide (a0.1.length≤100):=Ani _ 100
 by_cases hl:a0.1.length≤100
 ·have hL:=O1 (n:=a0.1.length) (Qy a0.1) (g:=fun m i=>Cl m i a0.1) (ok:=.inl ()) (bad:=.inr (false,())) (fun m i hi=>by
   show Cl (m + 1) i a0.1=_
   simp only [Cl,Jy]
   have g1:decide (nI (ByteArray.size (List.getD a0.1 i (Ad,Ad,())).2.1) > 100)=!decide (ByteArray.size (List.getD a0.1 i zP).2.1≤100):=Ani _ 100
   rw [Xv hi,G9,wI (show i < 4611686018427387904 by omega),En,gt0,g1]
   simp only [cond_true]
   unfold Qy bl
   show (bif !Vn (List.getD a0.1 i zP).1 then _ else _)=_
   cases i with
   | zero=>
    show (bif !Vn (List.getD a0.1 0 zP).1 then _ else bif !decide (ByteArray.size (List.getD a0.1 0 zP).2.1≤100) then _ else _)=_
    cases Vn (List.getD a0.1 0 zP).1<;>cases decide (ByteArray.size (List.getD a0.1 0 zP).2.1≤100)<;>rfl
   | succ j=>
    rw [wP j (by omega),G9,Xv (show j < a0.1.length by omega)]
    show (bif !Vn (List.getD a0.1 (j + 1) zP).1 then _ else bif !decide (ByteArray.size (List.getD a0.1 (j + 1) zP).2.1≤100) then _ else bif !Op.bytesLess (ByteArray.toList (List.getD a0.1 j zP).1) (ByteArray.toList (List.getD a0.1 (j + 1) zP).1) then _ else _)=_
    rw [Nat.add_sub_cancel]
    cases Vn (List.getD a0.1 (j + 1) zP).1<;>cases decide (ByteArray.size (List.getD a0.1 (j + 1) zP).2.1≤100)<;>cases Op.bytesLess (ByteArray.toList (List.getD a0.1 j zP).1) (ByteArray.toList (List.getD a0.1 (j + 1) zP).1)<;>rfl) (fun m=>by
   show Cl (m + 1) (a0.1.length:Int) a0.1=_
   simp only [Cl,Jy]
   rw [Od]
   rfl) (Fk 0 a0.1) 0 (by omega) (by simp [Fk,nI])
  have hL':Cl (Fk 0 a0.1) 0 a0.1=_:=hL
  rw [c1,Ag hl]
  show (Cl (Fk 0 a0.1) 0 a0.1).bind _=_
  rw [hL']
  cases (List.range' 0 (a0.1.length - 0)).all (Qy a0.1)<;>rfl
 ·rw [c1,Bd hl]
  rfl
def Z8 {R:Type} (k:Kt R):=(Bx (I3 (Hf 5) (.exit 0) 2 k) (I3 (Hf 5) .ret 1 k))
def Ad4 {R:Type}:Lt R Hf:=(Ea (pat:=Hf) 5 (fun d k=>(An9 d).bind (Z8 k)) Hn)
theorem Abh:A2 Tryz.prog Abg:=A5 ⟨Aku,trivial⟩
theorem Aoa {R:Type}:A4 Tryz.prog R 53 0 Hf Ad4 Z7:=
 B8 (cfg:=⟨Abg,0,53,Hf⟩) 5 [] (fun NX X d=>(Ac (Ac Ae)) (Jy  NX (fun e=>X (.inl (e))) (fun e=>X (.inr (e)))) d) (fun m d=>(Ac (Ac Ae)) (Cl m) d) (fun d=>(Ac (Ac Ae)) Fk d) Z8 Abh trivial (fun f NX d=>by simp only [u4,Ac,Ae]; unfold Jy; simp only [nb])
theorem Qn:Bs Tryz.prog 69 Mb:=
 A3 (pat:=Hf) [Z7] Ad4 Abh ⟨Aoa,trivial⟩ Tryz.func69 (de:=fun x=>U4 x.1) (fun x r h=>(Avl x.1).trans h) fun _=>by kernel_rfl
def Na (s:B5):List (List Be):=Ec s
def A1k:Gc:=⟨[.rd C8],[some 1],[.rd (.sl (.sl Do))],[none]⟩
def Yv:SD:=⟨A1k,fun x=>some (((Na x.1),()),(()))⟩
def Ahf:Tb:=tb [(69,Mb)]
def Lk:Nat→C2×(Nat→C2):=F0 [(6,⟨[.last 3 99 Do,.boxSl 1 0 Ax],[(1,.lf (.ptr 0 0)),(3,.lf (.row 1)),(4,.lf (.d tI))],[.box 31 [.d (.sl Ax)],.last 73 Do 2,.row 99 Do]⟩,[(2,⟨[.last 3 99 Do],[(3,.lf (.row 0))],[.last 73 Do 1,.row 99 Do]⟩)])]
def Abi:Code:=(At (Bb Tryz.f126)).getD 0 .skip
def Hg (v4:Int) (b0_0:List A1) (r1:List (List Be)) (c1:Bool) (r2:List Be):Nat:=((b0_0.length:Int) - v4).toNat + 1
def Mc {R:Type}  (NX:((Int)×(List A1)×(List (List Be))×(Bool)×(List Be)×Unit)→Option R) (X2:((List (List Be))×(Bool)×(List Be)×Unit)→Option R) (v4:Int) (b0_0:List A1) (r1:List (List Be)) (c1:Bool) (r2:List Be):Option R:=
 bif decide (v4 < nI b0_0.length) then bif v4.tmod 20==0 then bif decide ((r1.length + c1.toNat + 1) * 24≤140737488355328) then bif decide (0≤IntKind.i64.wrap (nI ((bif c1 then r1++[r2] else r1).length + true.toNat) - 1)) then bif decide (IntKind.i64.wrap (nI ((bif c1 then r1++[r2] else r1).length + true.toNat) - 1) < nI ((bif c1 then r1++[r2] else r1).length + true.toNat)) then bif decide ((IntKind.i64.wrap (nI ((bif c1 then r1++[r2] else r1).length + true.toNat) - 1)).toNat=(bif c1 then r1++[r2] else r1).length) then bif decide (0≤v4) then bif decide (v4 < nI b0_0.length) then bif decide (0≤v4) then bif decide (v4 < nI b0_0.length) then bif decide (0≤IntKind.i64.wrap (nI ((bif c1 then r1++[r2] else r1).length + true.toNat) - 1)) then bif decide (IntKind.i64.wrap (nI ((bif c1 then r1++[r2] else r1).length + true.toNat) - 1) < nI ((bif c1 then r1++[r2] else r1).length + true.toNat)) then bif decide ((IntKind.i64.wrap (nI ((bif c1 then r1++[r2] else r1).length + true.toNat) - 1)).toNat=(bif c1 then r1++[r2] else r1).length) then NX (IntKind.i64.wrap (v4 + 1),b0_0,bif c1 then r1++[r2] else r1,true,[]++[((b0_0.getD v4.toNat (Ad,Ad,())).1,(b0_0.getD v4.toNat (Ad,Ad,())).2.1,false,())],()) else none else none else none else none else none else none else none else none else none else none else none else bif decide (0≤IntKind.i64.wrap (nI (r1.length + c1.toNat) - 1)) then bif decide (IntKind.i64.wrap (nI (r1.length + c1.toNat) - 1) < nI (r1.length + c1.toNat)) then bif c1 then bif decide ((IntKind.i64.wrap (nI (r1.length + c1.toNat) - 1)).toNat=r1.length) then bif decide (0≤v4) then bif decide (v4 < nI b0_0.length) then bif decide (0≤v4) then bif decide (v4 < nI b0_0.length) then bif decide ((r2.length + [((b0_0.getD v4.toNat (Ad,Ad,())).1,(b0_0.getD v4.toNat (Ad,Ad,())).2.1,false,())].length) * 40≤140737488355328) then bif decide (0≤IntKind.i64.wrap (nI (r1.length + c1.toNat) - 1)) then bif decide (IntKind.i64.wrap (nI (r1.length + c1.toNat) - 1) < nI (r1.length + c1.toNat)) then bif c1 then bif decide ((IntKind.i64.wrap (nI (r1.length + c1.toNat) - 1)).toNat=r1.length) then NX (IntKind.i64.wrap (v4 + 1),b0_0,r1,c1,r2++[((b0_0.getD v4.toNat (Ad,Ad,())).1,(b0_0.getD v4.toNat (Ad,Ad,())).2.1,false,())],()) else none else none else none else none else none else none else none else none else none else none else none else none else none else X2 (r1,c1,r2,())
def C5:Nat→(Int)→(List A1)→(List (List Be))→(Bool)→(List Be) →  Option ((List (List Be))×(Bool)×(List Be)×Unit)
 | 0,_,_,_,_,_=>none
 | m + 1,v4,b0_0,r1,c1,r2=>Mc  (fun d=>C5 m d.1 d.2.1 d.2.2.1 d.2.2.2.1 d.2.2.2.2.1) (fun d=>some (d)) v4 b0_0 r1 c1 r2
def Avm (d:(Int)×(List A1)×(List (List Be))×(Bool)×(List Be)×Unit):Option ((List (List Be))×(Bool)×(List Be)×Unit):=(u4 (Ac Ae)) (C5 ((u4 (Ac Ae)) Hg d)) d
def Yw (a0:B5):Option ((((List (List Be))×Unit)×(Unit))):=
 bif !Gr a0 then some (([],()),()) else ((fun d=>C5 (Hg d.1 d.2.1 d.2.2.1 d.2.2.2.1 d.2.2.2.2.1) d.1 d.2.1 d.2.2.1 d.2.2.2.1 d.2.2.2.2.1) (0,a0.1,[],false,[],())).bind fun val=>some ((bif val.2.1 then val.1++[val.2.2.1] else val.1,()),())
theorem A1l (a0:B5):Yw a0=some (((Na a0),()),(())):=by
 unfold Yw Na Ec
 show (bif !Ak a0 then _ else _)=_
 cases hv:Ak a0 with
 | false=>rfl
 | true=>
  have hl:=Ca hv
  have hL:=E4 (xs:=a0.1) zP Bfc Nn (g:=fun m i s=>C5 m i a0.1 s.1 s.2.1 s.2.2) (ok:=fun s=>(s.1,s.2.1,s.2.2,())) (fun m i s hi hI=>by
   show C5 (m + 1) i a0.1 s.1 s.2.1 s.2.2=_
   obtain ⟨r0,c0,r1⟩:=s
   obtain ⟨h1,h2,h3,h4⟩:=hI
   simp only at h2 h3 h4 ⊢
   simp only [C5,Mc]
   rw [Xv hi,G9,wI (show i < 4611686018427387904 by omega),En,Bth]
   unfold Nn
   cases hc:(i % 20==0)
   ·have hp:0 < i:=Nat.pos_of_ne_zero fun q=>by subst q; cases hc
    have hc0:=h3 hp
    subst hc0
    have e1:=Bg8 r0.length (by omega)
    have e2:decide ((r0.length:Int) < nI (r0.length + 1))=true:=Xv (Nat.lt_succ_self _)
    have e3:decide ((r1.length + 1) * 40≤140737488355328)=true:=Ag (by omega)
    simp only [Bool.toNat_true,Et,cond_true,cond_false,e1,e2,e3,G9,En,decide_true]
    rfl
   ·have hL:List.length (bif c0 then r0++[r1] else r0)≤i + 1:=by cases c0<;>simp<;>omega
    have e1:=Bg8 (List.length (bif c0 then r0++[r1] else r0)) (by omega)
    have e2:decide (((List.length (bif c0 then r0++[r1] else r0):Nat):Int) < nI (List.length (bif c0 then r0++[r1] else r0) + 1))=true:=Xv (Nat.lt_succ_self _)
    have e3:decide ((r0.length + Bool.toNat c0 + 1) * 24≤140737488355328)=true:=Ag (by cases c0<;>simp<;>omega)
    simp only [Bool.toNat_true,cond_true,e1,e2,e3,G9,En,decide_true]
    rfl) (fun i s hi hI=>hI.step (by omega) _) (fun m s hI=>by
   show C5 (m + 1) (a0.1.length:Int) a0.1 s.1 s.2.1 s.2.2=_
   simp only [C5,Mc]
   rw [Od]
   rfl) (Hg 0 a0.1 [] false []) 0 ([],false,[]) (by omega) (by simp [Hg,nI]) ⟨by omega,by simp,fun q=>by omega,by simp⟩
  have hL':C5 (Hg 0 a0.1 [] false []) 0 a0.1 [] false []=_:=hL
  show (C5 (Hg 0 a0.1 [] false []) 0 a0.1 [] false []).bind _=_
  rw [hL']
  rfl
def Abj {R:Type} (k:Kt R):=(I3 (Lk 6) (.exit 0) 2 k)
def Akv {R:Type}:Lt R Lk:=(Ea (pat:=Lk) 6 (fun d k=>(Avm d).bind (Abj k)) Hn)
theorem Ahg:A2 Tryz.prog Ahf:=A5 ⟨Qn,trivial⟩
theorem Avn {R:Type}:A4 Tryz.prog R 51 0 Lk Akv Abi:=
 B8 (cfg:=⟨Ahf,0,51,Lk⟩) 6 [] (fun NX X (d:(Int)×(List A1)×(List (List Be))×(Bool)×(List Be)×Unit)=>(u4 (Ac Ae)) (Mc  NX X) d) (fun m d=>(u4 (Ac Ae)) (C5 m) d) (fun d=>(u4 (Ac Ae)) Hg d) Abj Ahg trivial (fun f NX (d:(Int)×(List A1)×(List (List Be))×(Bool)×(List Be)×Unit)=>by simp only [u4,Ac,Ae]; unfold Mc; simp only [nb])
theorem Ahh:Bs Tryz.prog 126 Yv:=
 A3 (pat:=Lk) [Abi] Akv Ahg ⟨Avn,trivial⟩ Tryz.func126 (de:=fun x=>Yw x.1) (fun x r h=>(A1l x.1).trans h) fun _=>by kernel_rfl
def A4x:Gc:=⟨[.rd tI],[none],[.rd .bool],[none]⟩
def Cp (a0:Int):Option ((((Bool)×Unit)×(Unit))):=
 bif decide (a0≥1) then some ((decide (a0≤8),()),()) else some ((false,()),())
def Du:SD:=⟨A4x,fun x=>Cp x.1⟩
theorem Er:Bs Tryz.prog 65 Du:=
 A3 (pat:=Dp) [] Hn (A5 (l:=[]) trivial) trivial Tryz.func65 (de:=fun x=>Cp x.1) (fun x r h=>h) fun _=>by kernel_rfl
def A95:Gc:=⟨[.rd tI],[none],[.rd tI],[none]⟩
def Aob (a0:Int):Option ((((Int)×Unit)×(Unit))):=
 some ((IntKind.i64.wrap (IntKind.i64.wrap (64 - a0) - 8),()),())
def Wv:SD:=⟨A95,fun x=>Aob x.1⟩
theorem Abk:Bs Tryz.prog 70 Wv:=
 A3 (pat:=Dp) [] Hn (A5 (l:=[]) trivial) trivial Tryz.func70 (de:=fun x=>Aob x.1) (fun x r h=>h) fun _=>by kernel_rfl
def Me (s:Aa) (w:Int):Option (List Aa):=if s.size≤1099511627776∧1≤w∧w≤8 then some (Ao s w) else none
def Nt (v0:Aa) (v6:Int) (r0:List Aa):Nat:=v0.size + 1
def A4y:Gc:=⟨[.rd .str,.rd tI],[none,none],[.own 9 .str],[none]⟩
def e9:SD:=⟨A4y,fun x=>(Me x.1 x.2.1).bind fun r=>some ((r,()),(()))⟩
def Akw:Tb:=tb [(70,Wv)]
def Nb:Nat→C2×(Nat→C2):=F0 [(4,⟨[.row 5 0 9 .str],[(0,.lf (.d .str)),(5,.lf (.row 0)),(6,.lf (.d tI))],[.row 9 .str]⟩,[(2,⟨[.row 5 0 9 .str],[(0,.lf (.d .str)),(5,.lf (.row 0))],[.row 9 .str]⟩)])]
def Ad5:Code:=(At (Bb Tryz.f200)).getD 0 .skip
def Kd {R:Type}  (NX:((Aa)×(Int)×(List Aa)×Unit)→Option R) (X2:((Aa)×(List Aa)×Unit)→Option R) (v0:Aa) (v6:Int) (r0:List Aa):Option R:=
 bif decide (nI v0.size > v6) then bif decide (0≤v6) then bif decide (v6≤nI v0.size) then bif decide ((r0.length + [Ah v0 0 v6].length) * 16≤140737488355328) then bif decide (0≤v6) then bif decide (v6≤nI v0.size) then NX (Ah v0 v6 (nI v0.size),v6,r0++[Ah v0 0 v6],()) else none else none else none else none else none else X2 (v0,r0,())
def Gs:Nat→(Aa)→(Int)→(List Aa) →  Option ((Aa)×(List Aa)×Unit)
 | 0,_,_,_=>none
 | m + 1,v0,v6,r0=>Kd  (fun d=>Gs m d.1 d.2.1 d.2.2.1) (fun d=>some (d)) v0 v6 r0
def Ax3 (d:(Aa)×(Int)×(List Aa)×Unit):Option ((Aa)×(List Aa)×Unit):=(Ac (Ac (Ac Ae))) (Gs ((Ac (Ac (Ac Ae))) Nt d)) d
def f8 (a0:Aa) (a1:Int):Option ((((List Aa)×Unit)×(Unit))):=
 ((fun d=>Gs (Nt d.1 d.2.1 d.2.2.1) d.1 d.2.1 d.2.2.1) (a0,IntKind.i64.wrap (IntKind.i64.wrap (64 - a1) - 8),[],())).bind fun val=>bif decide ((val.2.1.length + [val.1].length) * 16≤140737488355328) then some ((val.2.1++[val.1],()),()) else none
theorem A96 (n:Nat) (hn:1≤n) (hn2:n≤64):∀ (k m:Nat) (s:Aa) (r:List Aa),s.size≤k→k < m→r.length + s.size≤1099511627777→
  ∃ q t,Gs m s n r=some (t,q,())∧q++[t]=r++Fa n k s∧q.length + 1≤1099511627778
 | 0,m + 1,s,r,hs,hm,hr=>by
  refine ⟨r,s,?_,rfl,by omega⟩
  simp only [Gs,Kd]
  rw [Bd (show ¬ (nI s.size > (n:Int)) by simp only [nI]; omega)]
  rfl
 | k + 1,m + 1,s,r,hs,hm,hr=>by
  by_cases q:s.size > n
  ·have hc:(Ah s n (nI s.size)).size=s.size - n:=by rw [C6 (by omega) (by simp only [nI]; omega) (by simp [nI])]; simp only [nI]; omega
   obtain ⟨q',t',e1,e2,e3⟩:=A96 n hn hn2 k m (Ah s n (nI s.size)) (r++[Ah s 0 n]) (by omega) (by omega) (by rw [Ef,Et]; omega)
   refine ⟨q',t',?_,?_,e3⟩
   ·simp only [Gs,Kd]
    rw [Ag (show nI s.size > (n:Int) by simp only [nI]; omega),G9,Ag (show (n:Int)≤nI s.size by simp only [nI]; omega),Ag (show (r.length + [Ah s 0 n].length) * 16≤140737488355328 by rw [Et]; omega)]
    exact e1
   ·rw [e2,List.append_assoc]
    simp only [Fa,if_pos q]
    rfl
  ·refine ⟨r,s,?_,by simp only [Fa,if_neg q],by omega⟩
   simp only [Gs,Kd]
   rw [Bd (show ¬ (nI s.size > (n:Int)) by simp only [nI]; omega)]
   rfl
theorem A4z (a0:Aa) (a1:Int) r (h:Me a0 a1=some r):f8 a0 a1=some ((r,()),(())):=by
 unfold Me at h
 split at h
 ·rename_i hc
  cases h
  obtain ⟨h0,h1,h2⟩:=hc
  obtain ⟨n,hn⟩:∃ n:Nat,56 - a1=(n:Int):=⟨(56 - a1).toNat,by omega⟩
  unfold f8 Ao
  rw [Aj (n:=64 - a1) (by omega) (by omega),Aj (n:=64 - a1 - 8) (by omega) (by omega),show 64 - a1 - 8=56 - a1 by omega,hn,En]
  obtain ⟨q,t,e1,e2,e3⟩:=A96 n (by omega) (by omega) a0.size (Nt a0 n []) a0 [] (by omega) (by simp only [Nt]; omega) (by rw [List.length_nil]; omega)
  rw [List.nil_append] at e2
  refine bi_ e1 ?_
  show (bif decide ((q.length + [t].length) * 16≤140737488355328) then some ((q++[t],()),()) else none)=_
  rw [Ag (by rw [Et]; omega),e2]
  rfl
 ·cases h
def Ad6 {R:Type} (k:Kt R):=(I3 (Nb 4) (.exit 0) 2 k)
def Aoc {R:Type}:Lt R Nb:=(Ea (pat:=Nb) 4 (fun d k=>(Ax3 d).bind (Ad6 k)) Hn)
theorem Akx:A2 Tryz.prog Akw:=A5 ⟨Abk,trivial⟩
theorem Ax4 {R:Type}:A4 Tryz.prog R 27 0 Nb Aoc Ad5:=
 B8 (cfg:=⟨Akw,0,27,Nb⟩) 4 [] (fun NX X d=>(Ac (Ac (Ac Ae))) (Kd  NX X) d) (fun m d=>(Ac (Ac (Ac Ae))) (Gs m) d) (fun d=>(Ac (Ac (Ac Ae))) Nt d) Ad6 Akx trivial (fun f NX d=>by simp only [u4,Ac,Ae]; unfold Kd; simp only [nb])
theorem Aky:Bs Tryz.prog 200 e9:=
 A3 (pat:=Nb) [Ad5] Aoc Akx ⟨Ax4,trivial⟩ Tryz.func200 (de:=fun x=>f8 x.1 x.2.1) (fun x r h=>F1 (A4z x.1 x.2.1) h) fun _=>by kernel_rfl
def Ww (s:Aa) (w:Int):Option Int:=if s.size≤1099511627776 then some (bif Bw w 1 8 then ((Ao s w).length:Int) else 0) else none
def Bcz:Gc:=⟨[.rd .str,.rd tI],[none,none],[.rd tI],[none]⟩
def As1:SD:=⟨Bcz,fun x=>(Ww x.1 x.2.1).bind fun r=>some ((r,()),(()))⟩
def Afw (a0:Aa) (a1:Int):Option ((((Int)×Unit)×(Unit))):=
 (Cp a1).bind fun val=>bif !val.1.1 then some ((0,()),()) else ((Me a0 a1).bind fun val=>some ((val,()),())).bind fun val=>some ((nI (List.length val.1.1),()),())
theorem Bc0 (a0:Aa) (a1:Int) r (h:Ww a0 a1=some r):Afw a0 a1=some ((r,()),(())):=by
 unfold Ww at h
 split at h
 ·rename_i hc
  cases h
  unfold Afw
  refine bi_ (wid a1) ?_
  show (bif !Bw a1 1 8 then _ else _)=_
  cases hw:Bw a1 1 8 with
  | false=>rfl
  | true=>
   have n1:Me a0 a1=some (Ao a0 a1):=if_pos ⟨hc,Cv hw⟩
   simp only [n1,Option.bind_some,Bool.not_true,cond_false,cond_true]
   try rfl
 ·cases h
theorem Bc1:Bs Tryz.prog 127 As1:=
 A3 (pat:=Dp) [] Hn (A5 (l:=[(65,Du),(200,e9)]) ⟨Er,Aky,trivial⟩) trivial Tryz.func127 (de:=fun x=>Afw x.1 x.2.1) (fun x r h=>F1 (Bc0 x.1 x.2.1) h) fun _=>by kernel_rfl
def Qc (s:B5) (w:Int):Int:=D4 s w
def Bhu:Gc:=⟨[.rd C8,.rd tI],[some 1,none],[.rd tI],[none]⟩
def z7:SD:=⟨Bhu,fun x=>some (((Qc x.1 x.2.1),()),(()))⟩
def Ax5:Tb:=tb [(125,Ns),(126,Yv),(127,As1)]
def S5:Nat→C2×(Nat→C2):=F0 [(5,⟨[.sl 6 0 (.sl Do)],[(1,.lf (.d tI)),(5,.lf (.d tI)),(6,.lf (.d (.sl (.sl Do)))),(7,.lf (.d tI))],[]⟩,[(2,⟨[],[(5,.lf (.d tI))],[]⟩)])]
def Aod:Code:=(At (Bb Tryz.f41)).getD 0 .skip
def Mf (v1 v5:Int) (v6:List (List Be)) (v7:Int):Nat:=((v6.length:Int) - v7).toNat + 1
def Sb {R:Type}  (NX:((Int)×(Int)×(List (List Be))×(Int)×Unit)→Option R) (X2:((Int)×Unit)→Option R) (v1:Int) (v5:Int) (v6:List (List Be)) (v7:Int):Option R:=
 bif decide (v7 < nI v6.length) then bif decide (0≤v7) then bif decide (v7 < nI v6.length) then ((Ww (Ew (v6.getD v7.toNat [])) v1).bind fun val=>some ((val,()),())).bind fun val=>NX (v1,IntKind.i64.wrap (v5 + val.1.1),v6,IntKind.i64.wrap (v7 + 1),()) else none else none else X2 (v5,())
def Fl:Nat→(Int)→(Int)→(List (List Be))→(Int) →  Option ((Int)×Unit)
 | 0,_,_,_,_=>none
 | m + 1,v1,v5,v6,v7=>Sb  (fun d=>Fl m d.1 d.2.1 d.2.2.1 d.2.2.2.1) (fun d=>some (d)) v1 v5 v6 v7
def A97 (d:(Int)×(Int)×(List (List Be))×(Int)×Unit):Option ((Int)×Unit):=(u4 Ae) (Fl ((u4 Ae) Mf d)) d
def Aj2 (a0:B5) (a1:Int):Option ((((Int)×Unit)×(Unit))):=
 ((fun d=>Fl (Mf d.1 d.2.1 d.2.2.1 d.2.2.2.1) d.1 d.2.1 d.2.2.1 d.2.2.2.1) (a1,0,Na a0,0,())).bind fun val=>some (val,())
theorem Bhv (a0:B5) (a1:Int):Aj2 a0 a1=some (((Qc a0 a1),()),(())):=by
 unfold Aj2 Qc
 have hl:=Vo a0
 have hL:=E4 (xs:=Ec a0) [] Bm0 (fun _ b a=>a + Ge (Bh b).size a1) (g:=fun m i a=>Fl m a1 a (Ec a0) i) (ok:=fun a=>(a,())) (fun m i a hi hI=>by
  show Fl (m + 1) a1 a (Ec a0) i=_
  simp only [Fl,Sb]
  rw [Xv hi,G9,wI (show i < 4611686018427387904 by omega),En]
  have e1:Ww (Ew (List.getD (Ec a0) i [])) a1=some (Ge (Bh (List.getD (Ec a0) i [])).size a1):=by
    rw [← Agv]
    exact if_pos (Nat.le_trans (L5 _) (by decide))
  rw [e1]
  simp only [cond_true,Option.bind_some]
  rw [A8v hI]) (fun i a hi hI=>hI.step (by omega) _ _) (fun m a hI=>by
  show Fl (m + 1) a1 a (Ec a0) ((Ec a0).length:Int)=_
  simp only [Fl,Sb]
  rw [Od]
  rfl) (Mf a1 0 (Ec a0) 0) 0 0 (by omega) (by simp [Mf,nI]) ⟨by omega,by omega,by omega⟩
 have hL':Fl (Mf a1 0 (Ec a0) 0) a1 0 (Ec a0) 0=_:=hL
 show (Fl (Mf a1 0 (Ec a0) 0) a1 0 (Ec a0) 0).bind _=_
 rw [hL',Arc,List.drop_zero,Bj7,Int.zero_add]
 rfl
def Aoe {R:Type} (k:Kt R):=(I3 (S5 5) (.exit 0) 2 k)
def A30 {R:Type}:Lt R S5:=(Ea (pat:=S5) 5 (fun d k=>(A97 d).bind (Aoe k)) Hn)
theorem Ax6:A2 Tryz.prog Ax5:=A5 ⟨Rr,Ahh,Bc1,trivial⟩
theorem A98 {R:Type}:A4 Tryz.prog R 26 0 S5 A30 Aod:=
 B8 (cfg:=⟨Ax5,0,26,S5⟩) 5 [] (fun NX X d=>(u4 Ae) (Sb  NX X) d) (fun m d=>(u4 Ae) (Fl m) d) (fun d=>(u4 Ae) Mf d) Aoe Ax6 trivial (fun f NX d=>by simp only [u4,Ac,Ae]; unfold Sb; simp only [nb])
theorem Aj3:Bs Tryz.prog 41 z7:=
 A3 (pat:=S5) [Aod] A30 Ax6 ⟨A98,trivial⟩ Tryz.func41 (de:=fun x=>Aj2 x.1 x.2.1) (fun x r h=>(Bhv x.1 x.2.1).trans h) fun _=>by kernel_rfl
def Is (v lo hi:Int):Bool:=Bw v lo hi
def Bhw:Gc:=⟨[.rd tI,.rd tI,.rd tI],[none,none,none],[.rd .bool],[none]⟩
def Aj4:SD:=⟨Bhw,fun x=>some (((Is x.1 x.2.1 x.2.2.1),()),(()))⟩
def Aj5 (a0 a1 a2:Int):Option ((((Bool)×Unit)×(Unit))):=
 bif decide (a0≥a1) then some ((decide (a0≤a2),()),()) else some ((false,()),())
theorem Bhx (a0 a1 a2:Int):Aj5 a0 a1 a2=some ((Is a0 a1 a2,()),()):=by
 unfold Aj5 Is Bw
 by_cases h:a0≥a1
 ·have:decide (a1≤a0)=true:=by simpa using h
  simp [h,this]
 ·have:decide (a1≤a0)=false:=by simpa using h
  simp [h,this]
theorem Ax7:Bs Tryz.prog 67 Aj4:=
 A3 (pat:=Dp) [] Hn (A5 (l:=[]) trivial) trivial Tryz.func67 (de:=fun x=>Aj5 x.1 x.2.1 x.2.2.1) (fun x r h=>(Bhx x.1 x.2.1 x.2.2.1).trans h) fun _=>by kernel_rfl
def H5 (s:E5):Bool:=Au s
def Avo:Gc:=⟨[.rd Yf],[some 10],[.rd .bool],[none]⟩
def Mg:SD:=⟨Avo,fun x=>some (((H5 x.1),()),(()))⟩
def U5 (a0:E5):Option ((((Bool)×Unit)×(Unit))):=
 (Cp a0.1).bind fun val=>bif !val.1.1 then some ((false,()),()) else bif A7 a0.2.1==0 then some ((false,()),()) else bif !Is a0.2.2.1 1 60000 then some ((false,()),()) else bif !Is a0.2.2.2.1.1 0 1000000000 then some ((false,()),()) else bif !Is a0.2.2.2.1.2.1 0 1 then some ((false,()),()) else bif !Is a0.2.2.2.1.2.2.1 1 999999000 then some ((false,()),()) else bif !Is a0.2.2.2.1.2.2.2.1 0 60000 then some ((false,()),()) else bif Is a0.2.2.2.2.1 0 (A7 a0.2.1) then bif Is a0.2.2.2.2.2.1 0 a0.2.2.2.2.1 then bif Gr a0.2.2.2.2.2.2.1 then some ((decide (Qc a0.2.2.2.2.2.2.1 a0.1≤IntKind.i64.wrap (A7 a0.2.1 - 1)),()),()) else some ((false,()),()) else some ((false,()),()) else some ((false,()),())
theorem Avp (a0:E5):U5 a0=some (((H5 a0),()),(())):=by
 unfold U5 H5 Au
 refine bi_ (wid a0.1) ?_
 simp only [A7,Is,Gr,Qc,Vp,Bvj,By7,Bj8]
 simp only [Jo,Bool.and_assoc]
 rw [Bool.and_left_comm]
theorem Qo:Bs Tryz.prog 30 Mg:=
 A3 (pat:=Dp) [] Hn (A5 (l:=[(40,Pb),(41,z7),(65,Du),(67,Aj4),(69,Mb)]) ⟨R9,Aj3,Er,Ax7,Qn,trivial⟩) trivial Tryz.func30 (de:=fun x=>U5 x.1) (fun x r h=>(Avp x.1).trans h) fun _=>by kernel_rfl
def Ll (d:Dk) (at_:Int) (data:Aa):Bool:=Anf d.1.length (at_,data,())
def Ax8:Gc:=⟨[.rd yDk,.rd tI,.rd .str],[some 2,none,none],[.rd .bool],[none]⟩
def Wx:SD:=⟨Ax8,fun x=>some (((Ll x.1 x.2.1 x.2.2.1),()),(()))⟩
def Wy (a0:Dk) (a1:Int) (a2:Aa):Option ((((Bool)×Unit)×(Unit))):=
 bif decide (a1≥0) then bif decide (a1 < nI (List.length a0.1)) then some ((nI a2.size==64,()),()) else some ((false,()),()) else some ((false,()),())
theorem Ax9 (a0:Dk) (a1:Int) (a2:Aa):Wy a0 a1 a2=some ((Ll a0 a1 a2,()),()):=by
 unfold Wy Ll Anf
 have e:(nI (ByteArray.size a2)==64)=decide (a2.size=64):=by
  have:=Bqs a2.size 64
  simp only [bne] at this
  cases h:(nI (ByteArray.size a2)==((64:Nat):Int))<;>rw [h] at this<;>cases h2:decide (a2.size=64)<;>rw [h2] at this<;>first | (cases this; done) | exact h
 rw [e]
 by_cases h1:a1≥0
 ·have:decide (0≤a1)=true:=by simpa using h1
  rw [Ag h1]
  simp only [this,cond_true,Bool.true_and,nI]
  cases decide (a1 < (a0.1.length:Int))<;>rfl
 ·have:decide (0≤a1)=false:=by simpa using h1
  rw [Bd h1]
  simp only [this]
  rfl
theorem Ad7:Bs Tryz.prog 157 Wx:=
 A3 (pat:=Dp) [] Hn (A5 (l:=[]) trivial) trivial Tryz.func157 (de:=fun x=>Wy x.1 x.2.1 x.2.2.1) (fun x r h=>(Ax9 x.1 x.2.1 x.2.2.1).trans h) fun _=>by kernel_rfl
def F6 (d:Dk):Bool:=Ar d
def Aya:Gc:=⟨[.rd yDk],[some 2],[.rd .bool],[none]⟩
def H6:SD:=⟨Aya,fun x=>some (((F6 x.1),()),(()))⟩
def Wz:Tb:=tb [(157,Wx)]
def Cz:Nat→C2×(Nat→C2):=F0 [(5,⟨[.boxSl 1 0 .str,.boxSl 1 1 Em],[(1,.lf (.ptr 0 0)),(3,.lf (.d tI))],[.box 26 [.d (.sl .str),.d (.sl Em)]]⟩,[(2,⟨[.boxSl 1 0 .str,.boxSl 1 1 Em],[(1,.lf (.ptr 0 0))],[.box 26 [.d (.sl .str),.d (.sl Em)]]⟩),(1,⟨[],[(2,.lf (.d .bool))],[]⟩)]),(10,⟨[.boxSl 1 0 .str,.boxSl 1 1 Em],[(1,.lf (.ptr 0 0)),(4,.lf (.d tI))],[.box 26 [.d (.sl .str),.d (.sl Em)]]⟩,[(4,p0),(1,⟨[],[(2,.lf (.d .bool))],[]⟩)])]
def l6:Code:=(At (Bb Tryz.f66)).getD 0 .skip
def Z9:Code:=(At (Bb Tryz.f66)).getD 1 .skip
def Fm (v4:Int) (b0_0:List Aa) (b0_1:List Wr):Nat:=((b0_1.length:Int) - v4).toNat + 1
def Jz {R:Type}  (NX:((Int)×(List Aa)×(List Wr)×Unit)→Option R) (X4:(Unit)→Option R) (X1:((Bool)×Unit)→Option R) (v4:Int) (b0_0:List Aa) (b0_1:List Wr):Option R:=
 bif decide (v4 < nI b0_1.length) then bif decide (0≤v4) then bif decide (v4 < nI b0_1.length) then bif decide (0≤v4) then bif decide (v4 < nI b0_1.length) then bif !Ll (b0_0,b0_1,()) (b0_1.getD v4.toNat (0,Ad,())).1 (b0_1.getD v4.toNat (0,Ad,())).2.1 then X1 (false,()) else NX (IntKind.i64.wrap (v4 + 1),b0_0,b0_1,()) else none else none else none else none else X4 PUnit.unit
def Cm:Nat→(Int)→(List Aa)→(List Wr) →  Option ((Unit) ⊕ ((Bool)×Unit))
 | 0,_,_,_=>none
 | m + 1,v4,b0_0,b0_1=>Jz  (fun d=>Cm m d.1 d.2.1 d.2.2.1) (fun d=>some (.inl (d))) (fun d=>some (.inr (d))) v4 b0_0 b0_1
def Aof (d:(Int)×(List Aa)×(List Wr)×Unit):Option ((Unit) ⊕ ((Bool)×Unit)):=(Ac (Ac (Ac Ae))) (Cm ((Ac (Ac (Ac Ae))) Fm d)) d
def Gg (v3:Int) (b0_0:List Aa) (b0_1:List Wr):Nat:=((b0_0.length:Int) - v3).toNat + 1
def K0 {R:Type}  (NX:((Int)×(List Aa)×(List Wr)×Unit)→Option R) (X2:Dk→Option R) (X1:((Bool)×Unit)→Option R) (v3:Int) (b0_0:List Aa) (b0_1:List Wr):Option R:=
 bif decide (v3 < nI b0_0.length) then bif decide (0≤v3) then bif decide (v3 < nI b0_0.length) then bif nI (ByteArray.size (b0_0.getD v3.toNat (Ad))) != 64 then X1 (false,()) else NX (IntKind.i64.wrap (v3 + 1),b0_0,b0_1,()) else none else none else X2 (b0_0,b0_1,())
def Cs:Nat→(Int)→(List Aa)→(List Wr) →  Option (Dk ⊕ ((Bool)×Unit))
 | 0,_,_,_=>none
 | m + 1,v3,b0_0,b0_1=>K0  (fun d=>Cs m d.1 d.2.1 d.2.2.1) (fun d=>some (.inl (d))) (fun d=>some (.inr (d))) v3 b0_0 b0_1
def Arz (d:(Int)×(List Aa)×(List Wr)×Unit):Option (Dk ⊕ ((Bool)×Unit)):=(Ac (Ac (Ac Ae))) (Cs ((Ac (Ac (Ac Ae))) Gg d)) d
def W1 (a0:Dk):Option ((((Bool)×Unit)×(Unit))):=
 bif decide (nI (List.length a0.1) < 8) then some ((false,()),()) else bif decide (nI (List.length a0.1) > 200) then some ((false,()),()) else bif decide (nI (List.length a0.2.1) > 300) then some ((false,()),()) else ((fun d=>Cs (Gg d.1 d.2.1 d.2.2.1) d.1 d.2.1 d.2.2.1) (0,a0)).bind fun val=>Bx (fun d=>((fun d=>Cm (Fm d.1 d.2.1 d.2.2.1) d.1 d.2.1 d.2.2.1) (0,d)).bind fun val=>Bx (fun d=>some ((true,()),())) (fun d=>some (d,())) val) (fun d=>some (d,())) val
theorem Ayb (a0:Dk):W1 a0=some ((F6 a0,()),()):=by
 unfold W1 F6 Ar
 have c1:decide (nI a0.2.1.length > 300)=!decide (a0.2.1.length≤300):=Ani _ 300
 have c2:decide (nI a0.1.length > 200)=!decide ((a0.1.length:Int)≤200):=by
  rw [show decide (nI a0.1.length > 200)=!decide (a0.1.length≤200) from Ani _ 200]
  congr 1
  exact decide_eq_decide.2 (by omega)
 have c3:decide (nI a0.1.length < 8)=!decide (8≤(a0.1.length:Int)):=by
  by_cases q:8≤(a0.1.length:Int)
  ·rw [Ag q,Bd (by simp [nI]; omega)]; rfl
  ·rw [Bd q,Ag (by simp [nI]; omega)]; rfl
 rw [c1,c2,c3]
 unfold Bw
 by_cases h8:8≤(a0.1.length:Int)
 ·rw [Ag h8]
  by_cases h2:(a0.1.length:Int)≤200
  ·rw [Ag h2]
   by_cases hp:a0.2.1.length≤300
   ·rw [Ag hp]
    have hL:=O1 (n:=a0.1.length) (fun i=>decide ((a0.1.getD i z0).size=64)) (g:=fun m i=>Cs m i a0.1 a0.2.1) (ok:=.inl (a0.1,a0.2.1,())) (bad:=.inr (false,())) (fun m i hi=>by
     show Cs (m + 1) i a0.1 a0.2.1=_
     simp only [Cs,K0]
     have g1:(nI (ByteArray.size (List.getD a0.1 i (Ad))) != 64)=!decide ((a0.1.getD i z0).size=64):=Bqs _ 64
     rw [Xv hi,G9,wI (show i < 4611686018427387904 by omega),En,g1]
     cases decide ((a0.1.getD i z0).size=64)<;>rfl) (fun m=>by
     show Cs (m + 1) (a0.1.length:Int) a0.1 a0.2.1=_
     simp only [Cs,K0]
     rw [Od]
     rfl) (Gg 0 a0.1 a0.2.1) 0 (by omega) (by simp [Gg])
    have hL':Cs (Gg 0 a0.1 a0.2.1) 0 a0.1 a0.2.1=_:=hL
    have hM:=O1 (n:=a0.2.1.length) (fun i=>Anf a0.1.length (a0.2.1.getD i zW)) (g:=fun m i=>Cm m i a0.1 a0.2.1) (ok:=.inl ()) (bad:=.inr (false,())) (fun m i hi=>by
     show Cm (m + 1) i a0.1 a0.2.1=_
     simp only [Cm,Jz]
     rw [Xv hi,G9,wI (show i < 4611686018427387904 by omega),En]
     show (bif !Anf a0.1.length (a0.2.1.getD i zW) then _ else _)=_
     cases Anf a0.1.length (a0.2.1.getD i zW)<;>rfl) (fun m=>by
     show Cm (m + 1) (a0.2.1.length:Int) a0.1 a0.2.1=_
     simp only [Cm,Jz]
     rw [Od]
     rfl) (Fm 0 a0.1 a0.2.1) 0 (by omega) (by simp [Fm])
    have hM':Cm (Fm 0 a0.1 a0.2.1) 0 a0.1 a0.2.1=_:=hM
    show (Cs (Gg 0 a0.1 a0.2.1) 0 a0.1 a0.2.1).bind _=_
    rw [hL']
    rw [Nat.sub_zero] at hM' ⊢
    cases (List.range' 0 a0.1.length).all (fun i=>decide ((a0.1.getD i z0).size=64)) with
    | false=>rfl
    | true=>
     show (Cm (Fm 0 a0.1 a0.2.1) 0 a0.1 a0.2.1).bind _=_
     rw [hM']
     cases (List.range' 0 a0.2.1.length).all (fun i=>Anf a0.1.length (a0.2.1.getD i zW))<;>rfl
   ·rw [Bd hp]
    rfl
  ·rw [Bd h2]
   rfl
 ·rw [Bd h8]
  rfl
def l7 {R:Type} (k:Kt R):=(Bx (I3 (Cz 5) (.exit 0) 2 k) (I3 (Cz 5) .ret 1 k))
def a7 {R:Type} (k:Kt R):=(Bx (I3 (Cz 10) (.exit 2) 4 k) (I3 (Cz 10) .ret 1 k))
def Yx {R:Type}:Lt R Cz:=(Ea (pat:=Cz) 5 (fun d k=>(Arz d).bind (l7 k)) (Ea (pat:=Cz) 10 (fun d k=>(Aof d).bind (a7 k)) Hn))
theorem W2:A2 Tryz.prog Wz:=A5 ⟨Ad7,trivial⟩
theorem Aog {R:Type}:A4 Tryz.prog R 57 0 Cz Yx Z9:=
 B8 (cfg:=⟨Wz,0,57,Cz⟩) 10 [] (fun NX X d=>(Ac (Ac (Ac Ae))) (Jz  NX (fun e=>X (.inl (e))) (fun e=>X (.inr (e)))) d) (fun m d=>(Ac (Ac (Ac Ae))) (Cm m) d) (fun d=>(Ac (Ac (Ac Ae))) Fm d) a7 W2 trivial (fun f NX d=>by simp only [u4,Ac,Ae]; unfold Jz; simp only [nb])
theorem Ar0 {R:Type}:A4 Tryz.prog R 57 0 Cz Yx l6:=
 B8 (cfg:=⟨Wz,0,57,Cz⟩) 5 [] (fun NX X d=>(Ac (Ac (Ac Ae))) (K0  NX (fun e=>X (.inl (e))) (fun e=>X (.inr (e)))) d) (fun m d=>(Ac (Ac (Ac Ae))) (Cs m) d) (fun d=>(Ac (Ac (Ac Ae))) Gg d) l7 W2 trivial (fun f NX d=>by simp only [u4,Ac,Ae]; unfold K0; simp only [nb])
theorem Ke:Bs Tryz.prog 66 H6:=
 A3 (pat:=Cz) [l6,Z9] Yx W2 ⟨Ar0,Aog,trivial⟩ Tryz.func66 (de:=fun x=>W1 x.1) (fun x r h=>(Ayb x.1).trans h) fun _=>by kernel_rfl
def Pc (s:E5):Bool:=Rm s
def Ayc:Gc:=⟨[.rd Yf],[some 10],[.rd .bool],[none]⟩
def Ad8:SD:=⟨Ayc,fun x=>some (((Pc x.1),()),(()))⟩
def W3 (a0:E5):Option ((((Bool)×Unit)×(Unit))):=
 bif a0.1==0 then bif a0.2.1==0 then bif a0.2.2.1==0 then bif a0.2.2.2.1.1==0&&(a0.2.2.2.1.2.1==0&&(a0.2.2.2.1.2.2.1==0&&(a0.2.2.2.1.2.2.2.1==0&&true))) then bif a0.2.2.2.2.1==0 then bif a0.2.2.2.2.2.1==0 then some ((nI (List.length a0.2.2.2.2.2.2.1.1)==0,()),()) else some ((false,()),()) else some ((false,()),()) else some ((false,()),()) else some ((false,()),()) else some ((false,()),()) else some ((false,()),())
theorem Ayd (a0:E5):W3 a0=some (((Pc a0),()),(())):=by
 unfold W3 Pc Rm
 simp only [Bvj,Bool.and_true]
theorem Aye:Bs Tryz.prog 68 Ad8:=
 A3 (pat:=Dp) [] Hn (A5 (l:=[]) trivial) trivial Tryz.func68 (de:=fun x=>W3 x.1) (fun x r h=>(Ayd x.1).trans h) fun _=>by kernel_rfl
def Gt (w:Bg):Bool:=Bf w
def Avq:Gc:=⟨[.rd Gv],[some 16],[.rd .bool],[none]⟩
def Qp:SD:=⟨Avq,fun x=>some (((Gt x.1),()),(()))⟩
def U6:Tb:=tb [(30,Mg),(65,Du),(66,H6),(67,Aj4),(68,Ad8),(69,Mb)]
def Cq:Nat→C2×(Nat→C2):=F0 [(7,⟨[.boxSl 1 1 .str,.boxSl 1 2 Em,.boxSl 1 13 Ax,.boxSl 1 14 C8,.boxSl 1 15 .str],[(1,.lf (.ptr 0 0)),(3,.lf (.d tI))],[.box 36 [.d Gv]]⟩,[(2,⟨[.boxSl 1 1 .str,.boxSl 1 2 Em,.boxSl 1 13 Ax,.boxSl 1 14 C8,.boxSl 1 15 .str],[(1,.lf (.ptr 0 0))],[.box 36 [.d Gv]]⟩),(1,⟨[],[(2,.lf (.d .bool))],[]⟩)]),(12,⟨[.boxSl 1 1 .str,.boxSl 1 2 Em,.boxSl 1 13 Ax,.boxSl 1 14 C8,.boxSl 1 15 .str],[(1,.lf (.ptr 0 0)),(4,.lf (.d tI))],[.box 36 [.d Gv]]⟩,[(4,p0),(1,⟨[],[(2,.lf (.d .bool))],[]⟩)])]
def a8:Code:=(At (Bb Tryz.f15)).getD 0 .skip
def Xz:Code:=(At (Bb Tryz.f15)).getD 1 .skip
def Cf (v4:Int) (b0:Bg):Nat:=((List.length b0.2.2.2.2.2.1:Int) - v4).toNat + 1
def I0 {R:Type}  (NX:((Int)×Bg×Unit)→Option R) (X4:(Unit)→Option R) (X1:((Bool)×Unit)→Option R) (v4:Int) (b0:Bg):Option R:=
 bif decide (v4 < nI (List.length b0.2.2.2.2.2.1)) then bif decide (0≤v4) then bif decide (v4 < nI (List.length b0.2.2.2.2.2.1)) then bif nI (ByteArray.size (List.getD b0.2.2.2.2.2.1 v4.toNat (Ad))) != 64 then X1 (false,()) else NX (IntKind.i64.wrap (v4 + 1),b0,()) else none else none else X4 PUnit.unit
def Bk:Nat→(Int)→Bg →  Option ((Unit) ⊕ ((Bool)×Unit))
 | 0,_,_=>none
 | m + 1,v4,b0=>I0  (fun d=>Bk m d.1 d.2.1) (fun d=>some (.inl (d))) (fun d=>some (.inr (d))) v4 b0
def Amm (d:(Int)×Bg×Unit):Option ((Unit) ⊕ ((Bool)×Unit)):=(Ac (Ac Ae)) (Bk ((Ac (Ac Ae)) Cf d)) d
def Dd (v3:Int) (b0:Bg):Nat:=((List.length b0.2.2.2.2.1:Int) - v3).toNat + 1
def J0 {R:Type}  (NX:((Int)×Bg×Unit)→Option R) (X2:(Bg×Unit)→Option R) (X1:((Bool)×Unit)→Option R) (v3:Int) (b0:Bg):Option R:=
 bif decide (v3 < nI (List.length b0.2.2.2.2.1)) then bif decide (0≤v3) then bif decide (v3 < nI (List.length b0.2.2.2.2.1)) then bif !Gr (List.getD b0.2.2.2.2.1 v3.toNat ([],())) then X1 (false,()) else NX (IntKind.i64.wrap (v3 + 1),b0,()) else none else none else X2 (b0,())
def B2:Nat→(Int)→Bg →  Option ((Bg×Unit) ⊕ ((Bool)×Unit))
 | 0,_,_=>none
 | m + 1,v3,b0=>J0  (fun d=>B2 m d.1 d.2.1) (fun d=>some (.inl (d))) (fun d=>some (.inr (d))) v3 b0
def Aoh (d:(Int)×Bg×Unit):Option ((Bg×Unit) ⊕ ((Bool)×Unit)):=(Ac (Ac Ae)) (B2 ((Ac (Ac Ae)) Dd d)) d
def U7 (a0:Bg):Option ((((Bool)×Unit)×(Unit))):=
 (Cp a0.1).bind fun val=>bif !val.1.1 then some ((false,()),()) else bif !F6 a0.2.1 then some ((false,()),()) else bif !Is (nI (List.length a0.2.2.2.2.1)) 1 200 then some ((false,()),()) else bif decide (nI (List.length a0.2.2.2.2.2.1) > 2000) then some ((false,()),()) else bif a0.2.2.1 then bif !H5 a0.2.2.2.1 then some ((false,()),()) else bif a0.2.2.2.1.1 != a0.1 then some ((false,()),()) else bif a0.2.2.2.1.2.1 != nI (List.length a0.2.1.1) then some ((false,()),()) else bif !a0.2.2.1 then bif !Pc a0.2.2.2.1 then some ((false,()),()) else ((fun d=>B2 (Dd d.1 d.2.1) d.1 d.2.1) (0,a0,())).bind fun val=>Bx (fun d=>((fun d=>Bk (Cf d.1 d.2.1) d.1 d.2.1) (0,d)).bind fun val=>Bx (fun d=>some ((true,()),())) (fun d=>some (d,())) val) (fun d=>some (d,())) val else ((fun d=>B2 (Dd d.1 d.2.1) d.1 d.2.1) (0,a0,())).bind fun val=>Bx (fun d=>((fun d=>Bk (Cf d.1 d.2.1) d.1 d.2.1) (0,d)).bind fun val=>Bx (fun d=>some ((true,()),())) (fun d=>some (d,())) val) (fun d=>some (d,())) val else bif !a0.2.2.1 then bif !Pc a0.2.2.2.1 then some ((false,()),()) else ((fun d=>B2 (Dd d.1 d.2.1) d.1 d.2.1) (0,a0,())).bind fun val=>Bx (fun d=>((fun d=>Bk (Cf d.1 d.2.1) d.1 d.2.1) (0,d)).bind fun val=>Bx (fun d=>some ((true,()),())) (fun d=>some (d,())) val) (fun d=>some (d,())) val else ((fun d=>B2 (Dd d.1 d.2.1) d.1 d.2.1) (0,a0,())).bind fun val=>Bx (fun d=>((fun d=>Bk (Cf d.1 d.2.1) d.1 d.2.1) (0,d)).bind fun val=>Bx (fun d=>some ((true,()),())) (fun d=>some (d,())) val) (fun d=>some (d,())) val
theorem Bnw (b0:Bg) (h:b0.2.2.2.2.1.length≤200):
  B2 (Dd 0 b0) 0 b0=
  some (bif (List.range' 0 b0.2.2.2.2.1.length).all (fun i=>Ak (b0.2.2.2.2.1.getD i Ut)) then .inl (b0,()) else .inr (false,())):=by
 have hL:=O1 (n:=b0.2.2.2.2.1.length) (fun i=>Ak (b0.2.2.2.2.1.getD i Ut)) (g:=fun m i=>B2 m i b0) (ok:=.inl (b0,())) (bad:=.inr (false,())) (fun m i hi=>by
  show B2 (m + 1) i b0=_
  simp only [B2,J0]
  rw [Xv hi,G9,wI (show i < 4611686018427387904 by omega),En]
  show (bif !Ak (b0.2.2.2.2.1.getD i Ut) then _ else _)=_
  cases Ak (b0.2.2.2.2.1.getD i Ut)<;>rfl) (fun m=>by
  show B2 (m + 1) (b0.2.2.2.2.1.length:Int) b0=_
  simp only [B2,J0]
  rw [Od]
  rfl) (Dd 0 b0) 0 (by omega) (by simp only [Dd]; omega)
 exact hL
theorem A99 (b0:Bg) (h:b0.2.2.2.2.2.1.length≤2000):Bk (Cf 0 b0) 0 b0=
  some (bif (List.range' 0 b0.2.2.2.2.2.1.length).all (fun i=>decide ((b0.2.2.2.2.2.1.getD i z0).size=64)) then .inl () else .inr (false,())):=by
 have hL:=O1 (n:=b0.2.2.2.2.2.1.length) (fun i=>decide ((b0.2.2.2.2.2.1.getD i z0).size=64)) (g:=fun m i=>Bk m i b0) (ok:=.inl ()) (bad:=.inr (false,())) (fun m i hi=>by
  show Bk (m + 1) i b0=_
  simp only [Bk,I0]
  have e:(nI (ByteArray.size (List.getD b0.2.2.2.2.2.1 i (Ad))) != 64)=!decide ((b0.2.2.2.2.2.1.getD i z0).size=64):=Bqs (b0.2.2.2.2.2.1.getD i z0).size 64
  rw [Xv hi,G9,wI (show i < 4611686018427387904 by omega),En,e]
  cases decide ((b0.2.2.2.2.2.1.getD i z0).size=64)<;>rfl) (fun m=>by
  show Bk (m + 1) (b0.2.2.2.2.2.1.length:Int) b0=_
  simp only [Bk,I0]
  rw [Od]
  rfl) (Cf 0 b0) 0 (by omega) (by simp only [Cf]; omega)
 exact hL
theorem Avr (a0:Bg):U7 a0=some (((Gt a0),()),(())):=by
 unfold U7 Gt Bf
 refine bi_ (wid a0.1) ?_
 show (bif !Bw a0.1 1 8 then _ else bif !Ar a0.2.1 then _ else bif !Bw (nI a0.2.2.2.2.1.length) 1 200 then _ else _)=_
 cases Bw a0.1 1 8 with
 | false=>rfl
 | true=>
  cases Ar a0.2.1 with
  | false=>rfl
  | true=>
   cases hp:Bw (nI a0.2.2.2.2.1.length) 1 200 with
   | false=>rfl
   | true=>
    have hpl:a0.2.2.2.2.1.length≤200:=by have:=(Cv hp).2; simp only [nI] at this; omega
    have e1:decide (nI a0.2.2.2.2.2.1.length > 2000)=!decide (a0.2.2.2.2.2.1.length≤2000):=Ani _ 2000
    rw [e1]
    cases hw:decide (a0.2.2.2.2.2.1.length≤2000) with
    | false=>rfl
    | true=>
     have hwl:=Io hw
     simp only [Bool.not_true,Bool.true_and,cond_false]
     have key:∀ b:Bool,(bif b then (bif c9 a0 then (bif M9 a0 then some ((true,()),()) else some ((false,()),())) else some ((false,()),())) else some ((false,()),()))=(some ((b&&(c9 a0&&M9 a0),()),()):Option ((Bool×Unit)×Unit)):=fun b=>by
      cases b<;>cases c9 a0<;>cases M9 a0<;>rfl
     rw [← key]
     simp only [Bnw _ hpl,Option.bind_some]
     show _=(bif Rb a0 then (bif c9 a0 then (bif M9 a0 then _ else _) else _) else _)
     unfold Rb
     have hP:c9 a0=(List.range' 0 a0.2.2.2.2.1.length).all (fun i=>Ak (a0.2.2.2.2.1.getD i Ut)):=rfl
     have hW:M9 a0=(List.range' 0 a0.2.2.2.2.2.1.length).all (fun i=>decide ((a0.2.2.2.2.2.1.getD i z0).size=64)):=rfl
     rw [hP,hW]
     cases hu:a0.2.2.1 with
     | true=>
      simp only [cond_true,Bool.not_true,cond_false]
      show (bif !Au a0.2.2.2.1 then _ else _)=_
      have w1:(a0.2.2.2.1.1 != a0.1)=!(a0.2.2.2.1.1==a0.1):=rfl
      have w2:(a0.2.2.2.1.2.1 != nI a0.2.1.1.length)=!(a0.2.2.2.1.2.1==nI a0.2.1.1.length):=rfl
      rw [w1,w2]
      cases Au a0.2.2.2.1 with
      | false=>rfl
      | true=>
       cases (a0.2.2.2.1.1==a0.1) with
       | false=>rfl
       | true=>
        cases (a0.2.2.2.1.2.1==nI a0.2.1.1.length) with
        | false=>rfl
        | true=>
         cases (List.range' 0 a0.2.2.2.2.1.length).all (fun i=>Ak (a0.2.2.2.2.1.getD i Ut)) with
         | false=>rfl
         | true=>
          show (Bk (Cf 0 a0) 0 a0).bind _=_
          rw [A99 _ hwl]
          cases (List.range' 0 a0.2.2.2.2.2.1.length).all (fun i=>decide ((a0.2.2.2.2.2.1.getD i z0).size=64))<;>rfl
     | false=>
      simp only [cond_true,Bool.not_false,cond_false]
      show (bif !Rm a0.2.2.2.1 then _ else _)=_
      cases Rm a0.2.2.2.1 with
      | false=>rfl
      | true=>
       cases (List.range' 0 a0.2.2.2.2.1.length).all (fun i=>Ak (a0.2.2.2.2.1.getD i Ut)) with
       | false=>rfl
       | true=>
        show (Bk (Cf 0 a0) 0 a0).bind _=_
        rw [A99 _ hwl]
        cases (List.range' 0 a0.2.2.2.2.2.1.length).all (fun i=>decide ((a0.2.2.2.2.2.1.getD i z0).size=64))<;>rfl
def b4 {R:Type} (k:Kt R):=(Bx (I3 (Cq 7) (.exit 0) 2 k) (I3 (Cq 7) .ret 1 k))
def X0 {R:Type} (k:Kt R):=(Bx (I3 (Cq 12) (.exit 2) 4 k) (I3 (Cq 12) .ret 1 k))
def W4 {R:Type}:Lt R Cq:=(Ea (pat:=Cq) 7 (fun d k=>(Aoh d).bind (b4 k)) (Ea (pat:=Cq) 12 (fun d k=>(Amm d).bind (X0 k)) Hn))
theorem U8:A2 Tryz.prog U6:=A5 ⟨Qo,Er,Ke,Ax7,Aye,Qn,trivial⟩
theorem Amn {R:Type}:A4 Tryz.prog R 93 0 Cq W4 Xz:=
 B8 (cfg:=⟨U6,0,93,Cq⟩) 12 [] (fun NX X d=>(Ac (Ac Ae)) (I0  NX (fun e=>X (.inl (e))) (fun e=>X (.inr (e)))) d) (fun m d=>(Ac (Ac Ae)) (Bk m) d) (fun d=>(Ac (Ac Ae)) Cf d) X0 U8 trivial (fun f NX d=>by simp only [u4,Ac,Ae]; unfold I0; simp only [nb])
theorem Aoi {R:Type}:A4 Tryz.prog R 93 0 Cq W4 a8:=
 B8 (cfg:=⟨U6,0,93,Cq⟩) 7 [] (fun NX X d=>(Ac (Ac Ae)) (J0  NX (fun e=>X (.inl (e))) (fun e=>X (.inr (e)))) d) (fun m d=>(Ac (Ac Ae)) (B2 m) d) (fun d=>(Ac (Ac Ae)) Dd d) b4 U8 trivial (fun f NX d=>by simp only [u4,Ac,Ae]; unfold J0; simp only [nb])
theorem U9:Bs Tryz.prog 15 Qp:=
 A3 (pat:=Cq) [a8,Xz] W4 U8 ⟨Aoi,Amn,trivial⟩ Tryz.func15 (de:=fun x=>U7 x.1) (fun x r h=>(Avr x.1).trans h) fun _=>by kernel_rfl
def Jh (s:Aa):Option Int:=if s.size≤7 then some (Ang s) else none
def Pd (v0:Aa) (v3 v4:Int):Nat:=(nI v0.size - v4).toNat + 1
def Baa:Gc:=⟨[.rd .str],[none],[.rd tI],[none]⟩
def Abl:SD:=⟨Baa,fun x=>(Jh x.1).bind fun r=>some ((r,()),(()))⟩
def Aoj:Tb:=tb []
def Pf:Nat→C2×(Nat→C2):=F0 [(4,⟨[],[(0,.lf (.d .str)),(3,.lf (.d tI)),(4,.lf (.d tI))],[]⟩,[(2,⟨[],[(3,.lf (.d tI))],[]⟩)])]
def Ahi:Code:=(At (Bb Tryz.f71)).getD 0 .skip
def Ph {R:Type}  (NX:((Aa)×(Int)×(Int)×Unit)→Option R) (X2:((Int)×Unit)→Option R) (v0:Aa) (v3:Int) (v4:Int):Option R:=
 bif decide (v4 < nI v0.size) then bif decide (0≤v4) then bif decide (v4 < nI v0.size) then NX (v0,IntKind.i64.wrap (IntKind.i64.wrap (v3 * 256) + IntKind.i64.wrap (Ap v0 v4)),IntKind.i64.wrap (v4 + 1),()) else none else none else X2 (v3,())
def I7:Nat→(Aa)→(Int)→(Int) →  Option ((Int)×Unit)
 | 0,_,_,_=>none
 | m + 1,v0,v3,v4=>Ph  (fun d=>I7 m d.1 d.2.1 d.2.2.1) (fun d=>some (d)) v0 v3 v4
def A1m (d:(Aa)×(Int)×(Int)×Unit):Option ((Int)×Unit):=(Ac (Ac (Ac Ae))) (I7 ((Ac (Ac (Ac Ae))) Pd d)) d
def Abm (a0:Aa):Option ((((Int)×Unit)×(Unit))):=
 ((fun d=>I7 (Pd d.1 d.2.1 d.2.2.1) d.1 d.2.1 d.2.2.1) (a0,0,0,())).bind fun val=>some (val,())
theorem A31 (s:Aa) (hs:s.size≤7):∀ (k m i:Nat) (v:Int),i + k=s.size→k < m→0≤v→v < 256 ^ i→I7 m s v i=some (Bju s k i v,())
 | 0,m + 1,i,v,hi,hm,h0,h1=>by
  simp only [I7,Ph]
  rw [Bd (show ¬ ((i:Int) < nI s.size) by simp only [nI]; omega)]
  rfl
 | k + 1,m + 1,i,v,hi,hm,h0,h1=>by
  obtain ⟨hb,hs',e⟩:=Btb s i hi (by omega) h0 h1
  simp only [I7,Ph]
  have c1:(i:Int) < nI s.size:=by simp only [nI]; omega
  rw [Ag c1,Ag (show (0:Int)≤(i:Int) by omega),wI (show i < 4611686018427387904 by omega),e]
  exact A31 s hs k m (i + 1) _ (by omega) (by omega) hb hs'
theorem Bab (a0:Aa) r (h:Jh a0=some r):Abm a0=some ((r,()),(())):=by
 unfold Jh at h
 split at h
 ·rename_i hc
  cases h
  unfold Abm
  have hL:=A31 a0 hc a0.size (Pd a0 0 0) 0 0 (by omega) (by simp only [Pd,nI]; omega) (by omega) (by decide)
  exact bi_ hL rfl
 ·cases h
def Ahj {R:Type} (k:Kt R):=(I3 (Pf 4) (.exit 0) 2 k)
def As2 {R:Type}:Lt R Pf:=(Ea (pat:=Pf) 4 (fun d k=>(A1m d).bind (Ahj k)) Hn)
theorem Aok:A2 Tryz.prog Aoj:=A5 trivial
theorem A1n {R:Type}:A4 Tryz.prog R 19 0 Pf As2 Ahi:=
 B8 (cfg:=⟨Aoj,0,19,Pf⟩) 4 [] (fun NX X d=>(Ac (Ac (Ac Ae))) (Ph  NX X) d) (fun m d=>(Ac (Ac (Ac Ae))) (I7 m) d) (fun d=>(Ac (Ac (Ac Ae))) Pd d) Ahj Aok trivial (fun f NX d=>by simp only [u4,Ac,Ae]; unfold Ph; simp only [nb])
theorem Aol:Bs Tryz.prog 71 Abl:=
 A3 (pat:=Pf) [Ahi] As2 Aok ⟨A1n,trivial⟩ Tryz.func71 (de:=fun x=>Abm x.1) (fun x r h=>F1 (Bab x.1) h) fun _=>by kernel_rfl
def Ad9 (p:Pg) (w:Int):Bool:=Eg p w
def Bhy:Gc:=⟨[.rd yPg,.rd tI],[some 4,none],[.rd .bool],[none]⟩
def Ayf:SD:=⟨Bhy,fun x=>some (((Ad9 x.1 x.2.1),()),(()))⟩
def Aj6 (a0:Pg) (a1:Int):Option ((((Bool)×Unit)×(Unit))):=
 (Cp a1).bind fun val=>bif !val.1.1 then some ((false,()),()) else bif decide (a0.1 < 1) then some ((false,()),()) else bif decide (a0.1 > 4) then some ((false,()),()) else bif decide (a0.2.1 < 1) then some ((false,()),()) else bif decide (a0.2.1 > 60000) then some ((false,()),()) else bif decide (a0.2.2.1 < 1) then some ((false,()),()) else bif decide (a0.2.2.1 > 1000000000) then some ((false,()),()) else bif decide (nI (ByteArray.size a0.2.2.2.1)≤IntKind.i64.wrap (IntKind.i64.wrap (64 - a1) - 8)) then bif a0.1 != 3 then some ((true,()),()) else some ((ByteArray.toList a0.2.2.2.1==(Ad).toList,()),()) else some ((false,()),())
theorem Bhz (a0:Pg) (a1:Int):Aj6 a0 a1=some (((Ad9 a0 a1),()),(())):=by
 unfold Aj6 Ad9 Eg
 have tl:ByteArray.toList (Ad)=[]:=by decide +kernel
 rw [tl]
 refine bi_ (wid a1) ?_
 show (bif !Bw a1 1 8 then _ else _)=_
 cases hw:Bw a1 1 8 with
 | false=>rfl
 | true=>
  have k1:=Io (B6 hw).1
  have k2:=Io (B6 hw).2
  rw [Aj (n:=64 - a1) (by omega) (by omega),Aj (by omega) (by omega),show 64 - a1 - 8=56 - a1 by omega]
  have e:∀ (x lo hi:Int) {ρ:Type} (f t:ρ),(bif decide (x < lo) then f else bif decide (x > hi) then f else t)=bif Bw x lo hi then t else f:=by
   intro x lo hi ρ f t
   unfold Bw
   by_cases h1:x < lo
   ·rw [Ag h1,Bd (show ¬ lo≤x by omega)]; rfl
   ·rw [Bd h1,Ag (show lo≤x by omega)]
    by_cases h2:x > hi
    ·rw [Ag h2,Bd (show ¬ x≤hi by omega)]; rfl
    ·rw [Bd h2,Ag (show x≤hi by omega)]; rfl
  rw [e a0.1,e a0.2.1,e a0.2.2.1]
  cases Bw a0.1 1 4<;>cases Bw a0.2.1 1 60000<;>cases Bw a0.2.2.1 1 1000000000<;>try rfl
  show (bif decide ((ByteArray.size a0.2.2.2.1:Int)≤56 - a1) then _ else _)=_
  cases decide ((ByteArray.size a0.2.2.2.1:Int)≤56 - a1)<;>cases (a0.1 != 3)<;>rfl
theorem Bh0:Bs Tryz.prog 159 Ayf:=
 A3 (pat:=Dp) [] Hn (A5 (l:=[(65,Du),(70,Wv)]) ⟨Er,Abk,trivial⟩) trivial Tryz.func159 (de:=fun x=>Aj6 x.1 x.2.1) (fun x r h=>(Bhz x.1 x.2.1).trans h) fun _=>by kernel_rfl
theorem Ahk:∃ f:Int→Int→Option Aa,f=fun v n=>if 0≤v∧v < 9223372036854775808∧0≤n∧n≤1000 then some (Dj v n.toNat) else none:=⟨_,rfl⟩
def Ch (v n:Int):Option Aa:=Classical.choose Ahk v n
theorem I8 (v n:Int):Ch v n=if 0≤v∧v < 9223372036854775808∧0≤n∧n≤1000 then some (Dj v n.toNat) else none:=by
 unfold Ch
 rw [Classical.choose_spec Ahk]
def Mh (v0 v1:Int) (v5:Aa) (v6:Int):Nat:=(v1 - v6).toNat + 1
def A1o:Gc:=⟨[.rd tI,.rd tI],[none,none],[.rd .str],[none]⟩
def Yy:SD:=⟨A1o,fun x=>(Ch x.1 x.2.1).bind fun r=>some ((r,()),(()))⟩
def Ahl:Tb:=tb []
def Lm:Nat→C2×(Nat→C2):=F0 [(4,⟨[],[(0,.lf (.d tI)),(1,.lf (.d tI)),(5,.lf (.d .str)),(6,.lf (.d tI))],[]⟩,[(2,⟨[],[(5,.lf (.d .str))],[]⟩)])]
def Abn:Code:=(At (Bb Tryz.f160)).getD 0 .skip
def Mi {R:Type}  (NX:((Int)×(Int)×(Aa)×(Int)×Unit)→Option R) (X2:((Aa)×Unit)→Option R) (v0:Int) (v1:Int) (v5:Aa) (v6:Int):Option R:=
 bif decide (v6 < v1) then bif decide ((strOfNums [IntKind.u8.wrap (v0.tmod 256)]).size + v5.size≤9223372036854775807) then NX (IntKind.i64.wrap (v0.tdiv 256),v1,strOfNums [IntKind.u8.wrap (v0.tmod 256)]++v5,IntKind.i64.wrap (v6 + 1),()) else none else X2 (v5,())
def Hh:Nat→(Int)→(Int)→(Aa)→(Int) →  Option ((Aa)×Unit)
 | 0,_,_,_,_=>none
 | m + 1,v0,v1,v5,v6=>Mi  (fun d=>Hh m d.1 d.2.1 d.2.2.1 d.2.2.2.1) (fun d=>some (d)) v0 v1 v5 v6
def Avs (d:(Int)×(Int)×(Aa)×(Int)×Unit):Option ((Aa)×Unit):=(u4 Ae) (Hh ((u4 Ae) Mh d)) d
def Yz (a0 a1:Int):Option ((((Aa)×Unit)×(Unit))):=
 ((fun d=>Hh (Mh d.1 d.2.1 d.2.2.1 d.2.2.2.1) d.1 d.2.1 d.2.2.1 d.2.2.2.1) (a0,a1,Ad,0,())).bind fun val=>some (val,())
theorem As3:∀ (k m i:Nat) (v:Int) (out:Aa),i + k≤1000→k < m→out.size=i→0≤v→v < 9223372036854775808→Hh m v ((i + k:Nat):Int) out i=some (Dj v k++out,())
 | 0,m + 1,i,v,out,hi,hm,ho,h0,h1=>by
  simp only [Hh,Mi]
  rw [Bd (by omega),Bjw]
  rfl
 | k + 1,m + 1,i,v,out,hi,hm,ho,h0,h1=>by
  simp only [Hh,Mi]
  have e1:IntKind.wrap IntKind.u8 (Int.tmod v 256)=v % 256:=by
   rw [Int.tmod_eq_emod_of_nonneg h0]
   show v % 256 % 256=v % 256
   omega
  have e2:IntKind.i64.wrap (Int.tdiv v 256)=v / 256:=by
   rw [Int.tdiv_eq_ediv_of_nonneg h0]
   exact Aj (by omega) (by omega)
  rw [Ag (show (i:Int) < ((i + (k + 1):Nat):Int) by omega),e1,e2,Ag (show ByteArray.size (strOfNums [v % 256]) + ByteArray.size out≤9223372036854775807 by rw [ho,D0]; simp; omega),wI (show i < 4611686018427387904 by omega)]
  have hL:=As3 k m (i + 1) (v / 256) (strOfNums [v % 256]++out) (by omega) (by omega) (by rw [ByteArray.size_append,ho,D0]; simp; omega) (by omega) (by omega)
  rw [show i + 1 + k=i + (k + 1) by omega] at hL
  refine hL.trans ?_
  rw [← ByteArray.append_assoc,← Bjx]
theorem A1p (a0 a1:Int) r (h:Ch a0 a1=some r):Yz a0 a1=some ((r,()),(())):=by
 rw [I8] at h
 split at h
 ·rename_i hc
  cases h
  obtain ⟨n,rfl⟩:∃ n:Nat,a1=(n:Int):=⟨a1.toNat,by omega⟩
  unfold Yz
  have hL:=As3 n (Mh a0 n (Ad) 0) 0 a0 (Ad) (by omega) (by simp only [Mh]; omega) rfl hc.1 hc.2.1
  rw [Nat.zero_add] at hL
  rw [Bta] at hL
  exact bi_ hL rfl
 ·cases h
def Abo {R:Type} (k:Kt R):=(I3 (Lm 4) (.exit 0) 2 k)
def Akz {R:Type}:Lt R Lm:=(Ea (pat:=Lm) 4 (fun d k=>(Avs d).bind (Abo k)) Hn)
theorem Ahm:A2 Tryz.prog Ahl:=A5 trivial
theorem Avt {R:Type}:A4 Tryz.prog R 22 0 Lm Akz Abn:=
 B8 (cfg:=⟨Ahl,0,22,Lm⟩) 4 [] (fun NX X d=>(u4 Ae) (Mi  NX X) d) (fun m d=>(u4 Ae) (Hh m) d) (fun d=>(u4 Ae) Mh d) Abo Ahm trivial (fun f NX d=>by simp only [u4,Ac,Ae]; unfold Mi; simp only [nb])
theorem Ahn:Bs Tryz.prog 160 Yy:=
 A3 (pat:=Lm) [Abn] Akz Ahm ⟨Avt,trivial⟩ Tryz.func160 (de:=fun x=>Yz x.1 x.2.1) (fun x r h=>F1 (A1p x.1 x.2.1) h) fun _=>by kernel_rfl
def Abp (s:Aa) (w:Int):Option Aa:=if s.size < 4611686018427387904 then some (Axb s w) else none
def T1 (v0:Aa) (v1 v5 v6:Int):Nat:=(nI v0.size - v6).toNat + 1
def Sc (v1 v5:Int) (v7:Aa) (v8:Int):Nat:=(v1 - v8).toNat + 1
def Bk8:Gc:=⟨[.rd .str,.rd tI],[none,none],[.rd .str],[none]⟩
def A32:SD:=⟨Bk8,fun x=>(Abp x.1 x.2.1).bind fun r=>some ((r,()),(()))⟩
def Aom:Tb:=tb [(65,Du)]
def La:Nat→C2×(Nat→C2):=F0 [(6,⟨[],[(0,.lf (.d .str)),(1,.lf (.d tI)),(5,.lf (.d (.int .u64))),(6,.lf (.d tI))],[]⟩,[(2,⟨[],[(1,.lf (.d tI)),(5,.lf (.d (.int .u64)))],[]⟩)]),(11,⟨[],[(1,.lf (.d tI)),(5,.lf (.d (.int .u64))),(7,.lf (.d .str)),(8,.lf (.d tI))],[]⟩,[(4,⟨[],[(7,.lf (.d .str))],[]⟩)])]
def As4:Code:=(At (Bb Tryz.f161)).getD 0 .skip
def Aon:Code:=(At (Bb Tryz.f161)).getD 1 .skip
def Sd {R:Type}  (NX:((Int)×(Int)×(Aa)×(Int)×Unit)→Option R) (X4:((Aa)×Unit)→Option R) (v1:Int) (v5:Int) (v7:Aa) (v8:Int):Option R:=
 bif decide (v8 < v1) then bif decide ((strOfNums [IntKind.u8.wrap (v5.tmod 256)]).size + v7.size≤9223372036854775807) then NX (v1,IntKind.u64.wrap (v5.tdiv 256),strOfNums [IntKind.u8.wrap (v5.tmod 256)]++v7,IntKind.i64.wrap (v8 + 1),()) else none else X4 (v7,())
def Mj:Nat→(Int)→(Int)→(Aa)→(Int) →  Option ((Aa)×Unit)
 | 0,_,_,_,_=>none
 | m + 1,v1,v5,v7,v8=>Sd  (fun d=>Mj m d.1 d.2.1 d.2.2.1 d.2.2.2.1) (fun d=>some (d)) v1 v5 v7 v8
def Bac (d:(Int)×(Int)×(Aa)×(Int)×Unit):Option ((Aa)×Unit):=(u4 Ae) (Mj ((u4 Ae) Sc d)) d
def T3 {R:Type}  (NX:((Aa)×(Int)×(Int)×(Int)×Unit)→Option R) (X2:((Int)×(Int)×Unit)→Option R) (v0:Aa) (v1:Int) (v5:Int) (v6:Int):Option R:=
 bif decide (v6 < nI v0.size) then bif decide (0≤v6) then bif decide (v6 < nI v0.size) then NX (v0,v1,IntKind.u64.wrap (IntKind.u64.wrap (nI (BitVec.ofInt 64 v5 ^^^ BitVec.ofInt 64 (IntKind.u64.wrap (Ap v0 v6))).toNat) * 1099511628211),IntKind.i64.wrap (v6 + 1),()) else none else none else X2 (v1,v5,())
def Ji:Nat→(Aa)→(Int)→(Int)→(Int) →  Option ((Int)×(Int)×Unit)
 | 0,_,_,_,_=>none
 | m + 1,v0,v1,v5,v6=>T3  (fun d=>Ji m d.1 d.2.1 d.2.2.1 d.2.2.2.1) (fun d=>some (d)) v0 v1 v5 v6
def Bc2 (d:(Aa)×(Int)×(Int)×(Int)×Unit):Option ((Int)×(Int)×Unit):=(u4 Ae) (Ji ((u4 Ae) T1 d)) d
def Aoo (a0:Aa) (a1:Int):Option ((((Aa)×Unit)×(Unit))):=
 (Cp a1).bind fun val=>bif !val.1.1 then some ((Ad,()),()) else ((fun d=>Ji (T1 d.1 d.2.1 d.2.2.1 d.2.2.2.1) d.1 d.2.1 d.2.2.1 d.2.2.2.1) (a0,a1,14695981039346656037,0,())).bind fun val=>((fun d=>Mj (Sc d.1 d.2.1 d.2.2.1 d.2.2.2.1) d.1 d.2.1 d.2.2.1 d.2.2.2.1) (val.1,val.2.1,Ad,0,())).bind fun val=>some (val,())
theorem Bad:∀ (k m i:Nat) (v:Int) (out:Aa),i + k≤1000→k < m→out.size=i→U64 v→Mj m ((i + k:Nat):Int) v out i=some (Dj v k++out,())
 | 0,m + 1,i,v,out,hi,hm,ho,hv=>by
  simp only [Mj,Sd]
  rw [Bd (by omega),Bjw]
  rfl
 | k + 1,m + 1,i,v,out,hi,hm,ho,hv=>by
  have h0:=hv.1
  have h1:=hv.2
  simp only [Mj,Sd]
  have e1:IntKind.wrap IntKind.u8 (Int.tmod v 256)=v % 256:=by
   rw [Int.tmod_eq_emod_of_nonneg h0]
   show v % 256 % 256=v % 256
   omega
  have e2:IntKind.wrap IntKind.u64 (Int.tdiv v 256)=v / 256:=by
   rw [Int.tdiv_eq_ediv_of_nonneg h0,Bwz]
   omega
  rw [Ag (show (i:Int) < ((i + (k + 1):Nat):Int) by omega),e1,e2,Ag (show ByteArray.size (strOfNums [v % 256]) + ByteArray.size out≤9223372036854775807 by rw [ho,D0]; simp; omega),wI (show i < 4611686018427387904 by omega)]
  have hL:=Bad k m (i + 1) (v / 256) (strOfNums [v % 256]++out) (by omega) (by omega) (by rw [ByteArray.size_append,ho,D0]; simp; omega) ⟨by omega,by omega⟩
  rw [show i + 1 + k=i + (k + 1) by omega] at hL
  refine hL.trans ?_
  rw [← ByteArray.append_assoc,← Bjx]
theorem Bk9 (a0:Aa) (a1:Int) r (h:Abp a0 a1=some r):Aoo a0 a1=some ((r,()),(())):=by
 unfold Abp at h
 split at h
 rotate_left
 ·cases h
 rename_i hsz
 cases h
 unfold Aoo Axb
 generalize hC:(14695981039346656037:Int)=C
 have h0:U64 C:=by rw [← hC]; exact ⟨by decide,by decide⟩
 refine bi_ (wid a1) ?_
 show (bif !Bw a1 1 8 then _ else _)=_
 cases hw:Bw a1 1 8 with
 | false=>rfl
 | true=>
  have k1:=Io (B6 hw).1
  have k2:=Io (B6 hw).2
  ·simp only [Bool.not_true,cond_false,cond_true]
   have hL:=Aq9 a0.size (fun _ _=>True) (fun i h=>Anh h (Ap a0 i)) (g:=fun m i h=>Ji m a0 a1 h i) (ok:=fun h=>(a1,h,())) (fun m i h hi _=>by
    show Ji (m + 1) a0 a1 h i=_
    simp only [Ji,T3]
    have c1:(i:Int) < nI a0.size:=by simp only [nI]; omega
    rw [Ag c1,G9,wI (show i < 4611686018427387904 by omega)]
    rfl) (fun m h _=>by
    show Ji (m + 1) a0 a1 h a0.size=_
    simp only [Ji,T3]
    rw [Bd (show ¬ ((a0.size:Int) < nI a0.size) by simp only [nI]; omega)]
    rfl) (fun _ _ _ _=>trivial) a0.size (T1 a0 a1 C 0) 0 C (by omega) (by simp only [T1,nI]; omega) trivial
   rw [show ((0:Nat):Int)=0 from rfl] at hL
   refine bi_ hL ?_
   obtain ⟨n,rfl⟩:∃ n:Nat,a1=(n:Int):=⟨a1.toNat,by omega⟩
   have hM:=Bad n (Sc n (A0t a0 a0.size 0 C) (Ad) 0) 0 (A0t a0 a0.size 0 C) (Ad) (by omega) (by simp only [Sc]; omega) rfl (Bo3 a0 _ _ h0)
   rw [Nat.zero_add,Bta] at hM
   exact bi_ hM rfl
def As5 {R:Type} (k:Kt R):=(I3 (La 6) (.exit 0) 2 k)
def Aop {R:Type} (k:Kt R):=(I3 (La 11) (.exit 2) 4 k)
def Avu {R:Type}:Lt R La:=(Ea (pat:=La) 6 (fun d k=>(Bc2 d).bind (As5 k)) (Ea (pat:=La) 11 (fun d k=>(Bac d).bind (Aop k)) Hn))
theorem Aoq:A2 Tryz.prog Aom:=A5 ⟨Er,trivial⟩
theorem Bae {R:Type}:A4 Tryz.prog R 40 0 La Avu Aon:=
 B8 (cfg:=⟨Aom,0,40,La⟩) 11 [] (fun NX X d=>(u4 Ae) (Sd  NX X) d) (fun m d=>(u4 Ae) (Mj m) d) (fun d=>(u4 Ae) Sc d) Aop Aoq trivial (fun f NX d=>by simp only [u4,Ac,Ae]; unfold Sd; simp only [nb])
theorem Bc3 {R:Type}:A4 Tryz.prog R 40 0 La Avu As4:=
 B8 (cfg:=⟨Aom,0,40,La⟩) 6 [] (fun NX X d=>(u4 Ae) (T3  NX X) d) (fun m d=>(u4 Ae) (Ji m) d) (fun d=>(u4 Ae) T1 d) As5 Aoq trivial (fun f NX d=>by simp only [u4,Ac,Ae]; unfold T3; simp only [nb])
theorem Bla:Bs Tryz.prog 161 A32:=
 A3 (pat:=La) [As4,Aon] Avu Aoq ⟨Bc3,Bae,trivial⟩ Tryz.func161 (de:=fun x=>Aoo x.1 x.2.1) (fun x r h=>F1 (Bk9 x.1 x.2.1) h) fun _=>by kernel_rfl
def Dv (p:Pg) (w:Int):Aa:=Cc p w
def Mk (v1:Int) (v5:Aa):Nat:=(64 - v1 - nI v5.size).toNat + 1
def A1q:Gc:=⟨[.rd yPg,.rd tI],[some 4,none],[.rd .str],[none]⟩
def Ln:SD:=⟨A1q,fun x=>some (((Dv x.1 x.2.1),()),(()))⟩
def Aho:Tb:=tb [(159,Ayf),(160,Yy),(161,A32)]
def Lo:Nat→C2×(Nat→C2):=F0 [(5,⟨[],[(1,.lf (.d tI)),(5,.lf (.d .str))],[]⟩,[(2,⟨[],[(1,.lf (.d tI)),(5,.lf (.d .str))],[]⟩)])]
def Abq:Code:=(At (Bb Tryz.f72)).getD 0 .skip
def Ml {R:Type}  (NX:((Int)×(Aa)×Unit)→Option R) (X2:((Int)×(Aa)×Unit)→Option R) (v1:Int) (v5:Aa):Option R:=
 bif decide (IntKind.i64.wrap (nI v5.size + v1) < 64) then bif decide (v5.size + (ByteArray.mk #[0]).size≤9223372036854775807) then NX (v1,v5++ByteArray.mk #[0],()) else none else X2 (v1,v5,())
def Hi:Nat→(Int)→(Aa) →  Option ((Int)×(Aa)×Unit)
 | 0,_,_=>none
 | m + 1,v1,v5=>Ml  (fun d=>Hi m d.1 d.2.1) (fun d=>some (d)) v1 v5
def Avv (d:(Int)×(Aa)×Unit):Option ((Int)×(Aa)×Unit):=(Ac (Ac Ae)) (Hi ((Ac (Ac Ae)) Mk d)) d
def Y0 (a0:Pg) (a1:Int):Option ((((Aa)×Unit)×(Unit))):=
 bif !Ad9 a0 a1 then some ((Ad,()),()) else ((Ch a0.1 1).bind fun val=>some ((val,()),())).bind fun val=>((Ch a0.2.1 2).bind fun val=>some ((val,()),())).bind fun val_1=>bif decide (ByteArray.size val.1.1 + ByteArray.size val_1.1.1≤9223372036854775807) then ((Ch a0.2.2.1 4).bind fun val=>some ((val,()),())).bind fun val_2=>bif decide ((val.1.1++val_1.1.1).size + ByteArray.size val_2.1.1≤9223372036854775807) then ((Ch (nI (ByteArray.size a0.2.2.2.1)) 1).bind fun val=>some ((val,()),())).bind fun val_3=>bif decide ((val.1.1++val_1.1.1++val_2.1.1).size + ByteArray.size val_3.1.1≤9223372036854775807) then bif decide ((val.1.1++val_1.1.1++val_2.1.1++val_3.1.1).size + ByteArray.size a0.2.2.2.1≤9223372036854775807) then ((fun d=>Hi (Mk d.1 d.2.1) d.1 d.2.1) (a1,val.1.1++val_1.1.1++val_2.1.1++val_3.1.1++a0.2.2.2.1,())).bind fun val=>((Abp val.2.1 val.1).bind fun val=>some ((val,()),())).bind fun val_4=>bif decide (ByteArray.size val_4.1.1 + ByteArray.size val.2.1≤9223372036854775807) then some ((val_4.1.1++val.2.1,()),()) else none else none else none else none else none
theorem Blb (w:Int):∀ (k m:Nat) (b:Aa),(b.size:Int) + w + k=64→0≤w→k < m→Hi m w b=some (w,b++strOfNums (List.replicate k 0),())
 | 0,m + 1,b,h,h0,hm=>by
  simp only [Hi,Ml]
  rw [Aj (by simp only [nI]; omega) (by simp only [nI]; omega),Bd (show ¬ (nI b.size + w < 64) by simp only [nI]; omega),show strOfNums (List.replicate 0 0)=Ad from rfl,Bta]
  rfl
 | k + 1,m + 1,b,h,h0,hm=>by
  simp only [Hi,Ml]
  have hz:(ByteArray.mk #[0]).size=1:=rfl
  rw [Aj (by simp only [nI]; omega) (by simp only [nI]; omega),Ag (show nI b.size + w < 64 by simp only [nI]; omega),hz,Ag (show b.size + 1≤9223372036854775807 by omega)]
  have:=Blb w k m (b++ByteArray.mk #[0]) (by rw [ByteArray.size_append,hz]; omega) h0 (by omega)
  refine this.trans ?_
  rw [ByteArray.append_assoc,show ByteArray.mk #[0]=strOfNums [0] from rfl,← Asu]
  rfl
theorem A1r (a0:Pg) (a1:Int):Y0 a0 a1=some (((Dv a0 a1),()),(())):=by
 unfold Y0 Dv Cc
 show (bif !Eg a0 a1 then _ else _)=_
 cases hp:Eg a0 a1 with
 | false=>rfl
 | true=>
  obtain ⟨hw,k1,k2,kp⟩:=Aau hp
  obtain ⟨r1,r2,r3⟩:=Ank hp
  have n1:Ch a0.1 1=some (Dj a0.1 1):=(I8 _ _).trans (if_pos (by omega))
  have n2:Ch a0.2.1 2=some (Dj a0.2.1 2):=(I8 _ _).trans (if_pos (by omega))
  have n3:Ch a0.2.2.1 4=some (Dj a0.2.2.1 4):=(I8 _ _).trans (if_pos (by omega))
  have n4:Ch (nI a0.2.2.2.1.size) 1=some (Dj (nI a0.2.2.2.1.size) 1):=(I8 _ _).trans (if_pos (by simp only [nI]; omega))
  simp only [Bool.not_true,cond_false,cond_true,n1,n2,n3,n4,Option.bind_some]
  have hb:J5 a0 a1=Dj a0.1 1++Dj a0.2.1 2++Dj a0.2.2.1 4++Dj (nI a0.2.2.2.1.size) 1++a0.2.2.2.1++strOfNums (List.replicate (56 - a1 - a0.2.2.2.1.size).toNat 0):=rfl
  have hs4:(Dj a0.1 1++Dj a0.2.1 2++Dj a0.2.2.1 4++Dj (nI a0.2.2.2.1.size) 1).size=8:=by simp only [ByteArray.size_append,L4]
  have hs3:(Dj a0.1 1++Dj a0.2.1 2++Dj a0.2.2.1 4).size=7:=by simp only [ByteArray.size_append,L4]
  have hs2:(Dj a0.1 1++Dj a0.2.1 2).size=3:=by simp only [ByteArray.size_append,L4]
  have hs5:(Dj a0.1 1++Dj a0.2.1 2++Dj a0.2.2.1 4++Dj (nI a0.2.2.2.1.size) 1++a0.2.2.2.1).size=8 + a0.2.2.2.1.size:=by rw [ByteArray.size_append,hs4]
  rw [hs4,hs3,hs2,L4,L4,L4,L4,Ag (show 1 + 2≤9223372036854775807 by decide),Ag (show 3 + 4≤9223372036854775807 by decide),Ag (show 7 + 1≤9223372036854775807 by decide),Ag (show 8 + a0.2.2.2.1.size≤9223372036854775807 by omega)]
  simp only [cond_true]
  generalize hB:Dj a0.1 1++Dj a0.2.1 2++Dj a0.2.2.1 4++Dj (nI a0.2.2.2.1.size) 1++a0.2.2.2.1=B at *
  have hL:=Blb a1 (56 - a1 - a0.2.2.2.1.size).toNat (Mk a1 B) B (by rw [hs5]; omega) (by omega) (by simp only [Mk,nI,hs5]; omega)
  have hz:(strOfNums (List.replicate (56 - a1 - a0.2.2.2.1.size).toNat 0)).size=(56 - a1 - a0.2.2.2.1.size).toNat:=by rw [D0,List.length_replicate]
  rw [← hb] at hL
  have hbs:(J5 a0 a1).size≤64:=by rw [hb,ByteArray.size_append,hs5,hz]; omega
  have hm:Abp (J5 a0 a1) a1=some (Axb (J5 a0 a1) a1):=if_pos (by omega)
  refine bi_ hL (bi_ (bi_ hm rfl) ?_)
  show (bif decide (ByteArray.size (Axb (J5 a0 a1) a1) + ByteArray.size (J5 a0 a1)≤9223372036854775807) then some ((Axb (J5 a0 a1) a1++J5 a0 a1,()),()) else none)=_
  rw [Agu hw,Ag (by omega)]
  rfl
def Abr {R:Type} (k:Kt R):=(I3 (Lo 5) (.exit 0) 2 k)
def Ak0 {R:Type}:Lt R Lo:=(Ea (pat:=Lo) 5 (fun d k=>(Avv d).bind (Abr k)) Hn)
theorem Ahp:A2 Tryz.prog Aho:=A5 ⟨Bh0,Ahn,Bla,trivial⟩
theorem Avw {R:Type}:A4 Tryz.prog R 41 0 Lo Ak0 Abq:=
 B8 (cfg:=⟨Aho,0,41,Lo⟩) 5 [] (fun NX X d=>(Ac (Ac Ae)) (Ml  NX X) d) (fun m d=>(Ac (Ac Ae)) (Hi m) d) (fun d=>(Ac (Ac Ae)) Mk d) Abr Ahp trivial (fun f NX d=>by simp only [u4,Ac,Ae]; unfold Ml; simp only [nb])
theorem Pi:Bs Tryz.prog 72 Ln:=
 A3 (pat:=Lo) [Abq] Ak0 Ahp ⟨Avw,trivial⟩ Tryz.func72 (de:=fun x=>Y0 x.1 x.2.1) (fun x r h=>(A1r x.1 x.2.1).trans h) fun _=>by kernel_rfl
def Am (s:Aa) (w:Int):Pg×Bool:=Av s w
def A1s:Gc:=⟨[.rd .str,.rd tI],[none,none],[.rd yPg,.rd .bool],[some 4,none]⟩
def Pj:SD:=⟨A1s,fun x=>some (((Am x.1 x.2.1).1,(Am x.1 x.2.1).2,()),(()))⟩
def Y1 (a0:Aa) (a1:Int):Option (((Pg×(Bool)×Unit)×(Unit))):=
 (Cp a1).bind fun val=>bif !val.1.1 then some (((0,0,0,Ad,()),false,()),()) else bif nI a0.size != 64 then some (((0,0,0,Ad,()),false,()),()) else bif decide (0≤a1) then bif decide (a1≤nI a0.size) then bif decide (7 < nI (Ah a0 a1 (nI a0.size)).size) then bif decide (IntKind.i64.wrap (Ap (Ah a0 a1 (nI a0.size)) 7) > IntKind.i64.wrap (IntKind.i64.wrap (64 - a1) - 8)) then some (((0,0,0,Ad,()),false,()),()) else bif decide (0 < nI (Ah a0 a1 (nI a0.size)).size) then bif decide (3≤nI (Ah a0 a1 (nI a0.size)).size) then ((Jh (Ah (Ah a0 a1 (nI a0.size)) 1 3)).bind fun val=>some ((val,()),())).bind fun val=>bif decide (7≤nI (Ah a0 a1 (nI a0.size)).size) then ((Jh (Ah (Ah a0 a1 (nI a0.size)) 3 7)).bind fun val=>some ((val,()),())).bind fun val_1=>bif decide (8≤IntKind.i64.wrap (8 + IntKind.i64.wrap (Ap (Ah a0 a1 (nI a0.size)) 7))) then bif decide (IntKind.i64.wrap (8 + IntKind.i64.wrap (Ap (Ah a0 a1 (nI a0.size)) 7))≤nI (Ah a0 a1 (nI a0.size)).size) then bif !(Dv (IntKind.i64.wrap (Ap (Ah a0 a1 (nI a0.size)) 0),val.1.1,val_1.1.1,Ah (Ah a0 a1 (nI a0.size)) 8 (IntKind.i64.wrap (8 + IntKind.i64.wrap (Ap (Ah a0 a1 (nI a0.size)) 7))),()) a1).toList==a0.toList then some (((0,0,0,Ad,()),false,()),()) else some (((IntKind.i64.wrap (Ap (Ah a0 a1 (nI a0.size)) 0),val.1.1,val_1.1.1,Ah (Ah a0 a1 (nI a0.size)) 8 (IntKind.i64.wrap (8 + IntKind.i64.wrap (Ap (Ah a0 a1 (nI a0.size)) 7))),()),true,()),()) else none else none else none else none else none else none else none else none
theorem A1t (a0:Aa) (a1:Int):Y1 a0 a1=some (((Am a0 a1).1,(Am a0 a1).2,()),(())):=by
 unfold Y1 Am Av
 refine bi_ (wid a1) ?_
 show (bif !Bw a1 1 8 then _ else (bif nI a0.size != 64 then _ else _))=_
 cases hz:nI a0.size != 64 with
 | true=>cases Bw a1 1 8<;>rfl
 | false=>
   cases hw:Bw a1 1 8 with
   | false=>rfl
   | true=>
    have k1:=(Cv hw).1
    have k2:=(Cv hw).2
    have hs:a0.size=64:=by
     by_cases q:nI a0.size=64
     ·simp only [nI] at q; omega
     ·rw [(bne_iff_ne).2 q] at hz; cases hz
    have hb:(Ah a0 a1 (nI a0.size)).size=(64 - a1).toNat:=by rw [C6 (by omega) (by simp only [nI]; omega) (by simp [nI])]; simp only [nI,hs]; omega
    simp only [Bool.not_true,cond_false,cond_true]
    rw [Ag (show (0:Int)≤a1 by omega),Ag (show a1≤nI a0.size by simp only [nI]; omega)]
    unfold Bmw
    generalize Ah a0 a1 (nI a0.size)=b at *
    obtain ⟨b0,b1⟩:=J7 b 7
    obtain ⟨c0,c1⟩:=J7 b 0
    have hB:nI b.size=64 - a1:=by simp only [nI]; omega
    rw [hB,Ag (show (7:Int) < 64 - a1 by omega),Ag (show (0:Int) < 64 - a1 by omega),Ag (show (3:Int)≤64 - a1 by omega),Ag (show (7:Int)≤64 - a1 by omega),Aj (n:=Ap b 7) (by omega) (by omega),Aj (n:=Ap b 0) (by omega) (by omega),Aj (n:=64 - a1) (by omega) (by omega),Aj (n:=64 - a1 - 8) (by omega) (by omega),Aj (n:=8 + Ap b 7) (by omega) (by omega),show 64 - a1 - 8=56 - a1 by omega]
    by_cases q:Ap b 7 > 56 - a1
    ·rw [Ag q]; rfl
    ·rw [Bd q]
     have n1:Jh (Ah b 1 3)=some (Ang (Ah b 1 3)):=if_pos (by rw [C6 (by omega) (by omega) (by omega)]; decide)
     have n2:Jh (Ah b 3 7)=some (Ang (Ah b 3 7)):=if_pos (by rw [C6 (by omega) (by omega) (by omega)]; decide)
     simp only [n1,n2,Option.bind_some,cond_true,cond_false]
     rw [Ag (show 8≤8 + Ap b 7 by omega),Ag (show 8 + Ap b 7≤64 - a1 by omega)]
     show (bif !(ByteArray.toList (Cc (Bmv b) a1)==ByteArray.toList a0) then _ else _)=_
     cases (ByteArray.toList (Cc (Bmv b) a1)==ByteArray.toList a0)<;>rfl
theorem S6:Bs Tryz.prog 16 Pj:=
 A3 (pat:=Dp) [] Hn (A5 (l:=[(65,Du),(70,Wv),(71,Abl),(72,Ln)]) ⟨Er,Abk,Aol,Pi,trivial⟩) trivial Tryz.func16 (de:=fun x=>Y1 x.1 x.2.1) (fun x r h=>(A1t x.1 x.2.1).trans h) fun _=>by kernel_rfl
def T4 (w:Bg):Aa:=M2 w
def Baf:Gc:=⟨[.rd Gv],[some 16],[.rd .str],[none]⟩
def Aor:SD:=⟨Baf,fun x=>some (((T4 x.1),()),(()))⟩
def Abs:Tb:=tb [(15,Qp),(16,Pj)]
def Fo:Nat→C2×(Nat→C2):=F0 [(5,⟨[.boxSl 1 1 .str,.boxSl 1 2 Em,.boxSl 1 13 Ax,.boxSl 1 14 C8,.boxSl 1 15 .str],[(1,.lf (.ptr 0 0)),(3,.lf (.d tI))],[.box 36 [.d Gv]]⟩,[(2,p0),(1,⟨[],[(2,.lf (.d .str))],[]⟩)]),(10,⟨[.boxSl 1 1 .str,.boxSl 1 2 Em,.boxSl 1 13 Ax,.boxSl 1 14 C8,.boxSl 1 15 .str],[(1,.lf (.ptr 0 0)),(3,.lf (.d tI)),(4,.lf (.d .str)),(6,.lf (.d .bool)),(7,.lf (.d tI))],[.box 36 [.d Gv]]⟩,[(4,⟨[.boxSl 1 1 .str,.boxSl 1 2 Em,.boxSl 1 13 Ax,.boxSl 1 14 C8,.boxSl 1 15 .str],[(1,.lf (.ptr 0 0)),(3,.lf (.d tI)),(4,.lf (.d .str)),(6,.lf (.d .bool))],[.box 36 [.d Gv]]⟩)])]
def Y2:Code:=(At (Bb Tryz.f14)).getD 0 .skip
def Aea:Code:=(At Y2).getD 0 .skip
def Nu (v3:Int) (v4:Aa) (v6:Bool) (v7:Int) (b0:Bg):Nat:=((List.length b0.2.2.2.2.2.1:Int) - v7).toNat + 1
def Kf {R:Type}  (NX:((Int)×(Aa)×(Bool)×(Int)×Bg×Unit)→Option R) (X4:((Int)×(Aa)×(Bool)×Bg×Unit)→Option R) (v3:Int) (v4:Aa) (v6:Bool) (v7:Int) (b0:Bg):Option R:=
 bif decide (v7 < nI (List.length b0.2.2.2.2.2.1)) then bif v6 then bif decide (0≤v7) then bif decide (v7 < nI (List.length b0.2.2.2.2.2.1)) then NX (v3,v4,!ByteArray.toList (List.getD b0.2.2.2.2.2.1 v7.toNat (Ad))==v4.toList,IntKind.i64.wrap (v7 + 1),b0,()) else none else none else X4 (v3,v4,v6,b0,()) else X4 (v3,v4,v6,b0,())
def De:Nat→(Int)→(Aa)→(Bool)→(Int)→Bg →  Option ((Int)×(Aa)×(Bool)×Bg×Unit)
 | 0,_,_,_,_,_=>none
 | m + 1,v3,v4,v6,v7,b0=>Kf  (fun d=>De m d.1 d.2.1 d.2.2.1 d.2.2.2.1 d.2.2.2.2.1) (fun d=>some (d)) v3 v4 v6 v7 b0
def Nv (d:(Int)×(Aa)×(Bool)×(Int)×Bg×Unit):Option ((Int)×(Aa)×(Bool)×Bg×Unit):=(u4 (Ac Ae)) (De ((u4 (Ac Ae)) Nu d)) d
def Lp (v3:Int) (b0:Bg):Nat:=((List.length b0.2.1.1:Int) - v3).toNat + 1
def Pk {R:Type} (LO10:((Int)×(Aa)×(Bool)×(Int)×Bg×Unit)→Option ((Int)×(Aa)×(Bool)×Bg×Unit)) (NX:((Int)×Bg×Unit)→Option R) (X2:(Unit)→Option R) (X1:((Aa)×Unit)→Option R) (v3:Int) (b0:Bg):Option R:=
 bif decide (v3 < nI (List.length b0.2.1.1)) then bif decide (0≤v3) then bif decide (v3 < nI (List.length b0.2.1.1)) then (LO10 (v3,List.getD b0.2.1.1 v3.toNat (Ad),(Am (List.getD b0.2.1.1 v3.toNat (Ad)) b0.1).2,0,b0,())).bind fun val=>bif val.2.2.1 then X1 (val.2.1,()) else NX (IntKind.i64.wrap (val.1 + 1),val.2.2.2) else none else none else X2 PUnit.unit
def Ey:Nat→(Int)→Bg →  Option ((Unit) ⊕ ((Aa)×Unit))
 | 0,_,_=>none
 | m + 1,v3,b0=>Pk Nv (fun d=>Ey m d.1 d.2.1) (fun d=>some (.inl (d))) (fun d=>some (.inr (d))) v3 b0
def A1u (d:(Int)×Bg×Unit):Option ((Unit) ⊕ ((Aa)×Unit)):=(Ac (Ac Ae)) (Ey ((Ac (Ac Ae)) Lp d)) d
def Abt (a0:Bg):Option ((((Aa)×Unit)×(Unit))):=
 bif !Gt a0 then some ((Ad,()),()) else ((fun d=>Ey (Lp d.1 d.2.1) d.1 d.2.1) (0,a0,())).bind fun val=>Bx (fun d=>some ((Ad,()),())) (fun d=>some (d,())) val
theorem Bc4 (w:Bg) (v3:Int) (x:Aa) (ok:Bool) (hW:w.2.2.2.2.2.1.length≤2000):
  De (Nu v3 x ok 0 w) v3 x ok 0 w=some (v3,x,ok&&!inL w.2.2.2.2.2.1 x,w,()):=by
 have hL:=Bfg (xs:=w.2.2.2.2.2.1) z0 (fun y=>!Rl y x) (g:=fun m ok i=>De m v3 x ok i w) (ok:=fun ok=>(v3,x,ok,w,())) (fun m i hi=>by
   show De (m + 1) v3 x true i w=_
   simp only [De,Kf]
   rw [Xv hi,G9,wI (show i < 4611686018427387904 by omega),En]
   rfl) (fun m i hi=>by
   show De (m + 1) v3 x false i w=_
   simp only [De,Kf]
   cases decide ((i:Int) < nI w.2.2.2.2.2.1.length)<;>rfl) (fun m ok=>by
   show De (m + 1) v3 x ok (w.2.2.2.2.2.1.length:Int) w=_
   simp only [De,Kf]
   rw [Od]
   rfl) (Nu v3 x ok 0 w) 0 ok (by omega) (by simp [Nu,nI])
 rw [List.drop_zero,Bo7] at hL
 exact hL
theorem Bh1 (w:Bg) (hb:w.2.1.1.length≤200) (hW:w.2.2.2.2.2.1.length≤2000):
  Ey (Lp 0 w) 0 w=some (M6 (fun x=>(Av x w.1).2&&!inL w.2.2.2.2.2.1 x) (fun x=>.inr (x,())) (.inl ()) w.2.1.1):=by
 have hL:=A0u (xs:=w.2.1.1) z0 (fun x=>(Av x w.1).2&&!inL w.2.2.2.2.2.1 x) (fun x=>.inr (x,())) (g:=fun m i=>Ey m i w) (ok:=.inl ()) (fun m i hi=>by
   show Ey (m + 1) i w=_
   simp only [Ey,Pk,Nv,u4,Ac,Ae]
   rw [Xv hi,G9,En]
   simp only [cond_true]
   refine (congrArg (fun y=>Option.bind y _) (Bc4 w (i:Int) (List.getD w.2.1.1 i z0) (Av (List.getD w.2.1.1 i z0) w.1).2 hW)).trans ?_
   simp only [Option.bind_some]
   rw [wI (show i < 4611686018427387904 by omega)]) (fun m=>by
   show Ey (m + 1) (w.2.1.1.length:Int) w=_
   simp only [Ey,Pk,Nv,u4,Ac,Ae]
   rw [Od]
   rfl) (Lp 0 w) 0 (by omega) (by simp [Lp,nI])
 rw [List.drop_zero] at hL
 exact hL
theorem Bag (a0:Bg):Abt a0=some (((T4 a0),()),(())):=by
 unfold Abt T4 M2
 show (bif !Bf a0 then _ else _)=_
 cases hv:Bf a0 with
 | false=>rfl
 | true=>
  obtain ⟨h1,h2,_⟩:=x9 hv
  simp only [Bool.not_true,cond_false,cond_true]
  refine Qe (Bh1 a0 (Ix h1).n200 h2) ?_
  rw [Ur (Bx _ _),Ur (fun r:Aa=>some ((r,()),()))]
  rfl
def Ahq {R:Type} (k:Kt R):=(Bx (I3 (Fo 5) (.exit 0) 2 k) (I3 (Fo 5) .ret 1 k))
def Aeb {R:Type} (k:Kt R):=(I3 (Fo 10) (.exit 2) 4 k)
def Afx {R:Type}:Lt R Fo:=(Ea (pat:=Fo) 5 (fun d k=>(A1u d).bind (Ahq k)) (Ea (pat:=Fo) 10 (fun d k=>(Nv d).bind (Aeb k)) Hn))
theorem Abu:A2 Tryz.prog Abs:=A5 ⟨U9,S6,trivial⟩
theorem Ayg {R:Type}:A4 Tryz.prog R 51 0 Fo Afx Aea:=
 B8 (cfg:=⟨Abs,0,51,Fo⟩) 10 [] (fun NX X (d:(Int)×(Aa)×(Bool)×(Int)×Bg×Unit)=>(u4 (Ac Ae)) (Kf  NX X) d) (fun m d=>(u4 (Ac Ae)) (De m) d) (fun d=>(u4 (Ac Ae)) Nu d) Aeb Abu trivial (fun f NX (d:(Int)×(Aa)×(Bool)×(Int)×Bg×Unit)=>by simp only [u4,Ac,Ae]; unfold Kf; simp only [nb])
theorem A1v {R:Type}:A4 Tryz.prog R 51 0 Fo Afx Y2:=
 B8 (cfg:=⟨Abs,0,51,Fo⟩) 5 [Aea] (fun NX X d=>(Ac (Ac Ae)) (Pk Nv NX (fun e=>X (.inl (e))) (fun e=>X (.inr (e)))) d) (fun m d=>(Ac (Ac Ae)) (Ey m) d) (fun d=>(Ac (Ac Ae)) Lp d) Ahq Abu ⟨Ayg,trivial⟩ (fun f NX d=>by simp only [u4,Ac,Ae]; unfold Pk; simp only [nb])
theorem Bah:Bs Tryz.prog 14 Aor:=
 A3 (pat:=Fo) [Y2] Afx Abu ⟨A1v,trivial⟩ Tryz.func14 (de:=fun x=>Abt x.1) (fun x r h=>(Bag x.1).trans h) fun _=>by kernel_rfl
def Va (d:Dk) (a:Int):Option Aa:=if d.2.1.length≤1099511627776∧0≤a∧a < (d.1.length:Int) then some (Yg d a) else none
def Og (v1 v5:Int) (b0_0:List Aa) (b0_1:List Wr):Nat:=(v5 + 1).toNat + 1
def Blc:Gc:=⟨[.rd yDk,.rd tI],[some 2,none],[.rd .str],[none]⟩
def Aos:SD:=⟨Blc,fun x=>(Va x.1 x.2.1).bind fun r=>some ((r,()),(()))⟩
def A33:Tb:=tb []
def Se:Nat→C2×(Nat→C2):=F0 [(3,⟨[.boxSl 2 0 .str,.boxSl 2 1 Em],[(1,.lf (.d tI)),(2,.lf (.ptr 0 0)),(5,.lf (.d tI))],[.box 26 [.d (.sl .str),.d (.sl Em)]]⟩,[(2,⟨[.boxSl 2 0 .str,.boxSl 2 1 Em],[(1,.lf (.d tI)),(2,.lf (.ptr 0 0))],[.box 26 [.d (.sl .str),.d (.sl Em)]]⟩),(1,⟨[],[(4,.lf (.d .str))],[]⟩)])]
def As6:Code:=(At (Bb Tryz.f174)).getD 0 .skip
def T5 {R:Type}  (NX:((Int)×(Int)×(List Aa)×(List Wr)×Unit)→Option R) (X2:((Int)×(List Aa)×(List Wr)×Unit)→Option R) (X1:((Aa)×Unit)→Option R) (v1:Int) (v5:Int) (b0_0:List Aa) (b0_1:List Wr):Option R:=
 bif decide (v5≥0) then bif decide (0≤v5) then bif decide (v5 < nI b0_1.length) then bif (b0_1.getD v5.toNat (0,Ad,())).1==v1 then bif decide (0≤v5) then bif decide (v5 < nI b0_1.length) then X1 (b0_1.getD v5.toNat (0,Ad,())).2 else none else none else NX (v1,IntKind.i64.wrap (v5 - 1),b0_0,b0_1,()) else none else none else X2 (v1,b0_0,b0_1,())
def G2:Nat→(Int)→(Int)→(List Aa)→(List Wr) →  Option (((Int)×(List Aa)×(List Wr)×Unit) ⊕ ((Aa)×Unit))
 | 0,_,_,_,_=>none
 | m + 1,v1,v5,b0_0,b0_1=>T5  (fun d=>G2 m d.1 d.2.1 d.2.2.1 d.2.2.2.1) (fun d=>some (.inl (d))) (fun d=>some (.inr (d))) v1 v5 b0_0 b0_1
def Bc5 (d:(Int)×(Int)×(List Aa)×(List Wr)×Unit):Option (((Int)×(List Aa)×(List Wr)×Unit) ⊕ ((Aa)×Unit)):=(u4 Ae) (G2 ((u4 Ae) Og d)) d
def Aot (a0:Dk) (a1:Int):Option ((((Aa)×Unit)×(Unit))):=
 ((fun d=>G2 (Og d.1 d.2.1 d.2.2.1 d.2.2.2.1) d.1 d.2.1 d.2.2.1 d.2.2.2.1) (a1,IntKind.i64.wrap (nI (List.length a0.2.1) - 1),a0)).bind fun val=>Bx (fun d=>bif decide (0≤d.1) then bif decide (d.1 < nI (List.length d.2.1)) then some ((List.getD d.2.1 (Int.toNat d.1) (Ad),()),()) else none else none) (fun d=>some (d,())) val
theorem Bld (a0:Dk) (a1:Int) r (h:Va a0 a1=some r):Aot a0 a1=some ((r,()),(())):=by
 unfold Va at h
 split at h
 ·rename_i hc
  obtain ⟨hp,h0,h1⟩:=hc
  cases h
  have hw:IntKind.i64.wrap (nI a0.2.1.length - 1)=(a0.2.1.length:Int) - 1:=Aj (by simp only [nI]; omega) (by simp only [nI]; omega)
  have hL:=A8n (xs:=a0.2.1) zW (fun w=>w.1==a1) (fun w=>.inr (w.2.1,())) (g:=fun m i=>G2 m a1 i a0.1 a0.2.1) (ok:=.inl (a1,a0.1,a0.2.1,())) (fun m i hi=>by
   show G2 (m + 1) a1 i a0.1 a0.2.1=_
   simp only [G2,T5]
   have hi0:(i:Int)≥0:=by omega
   have hw:IntKind.i64.wrap ((i:Int) - 1)=(i:Int) - 1:=Aj (by omega) (by omega)
   rw [Ag hi0,Xv hi,En,hw]
   rfl) (fun m=>by
   show G2 (m + 1) a1 (-1) a0.1 a0.2.1=_
   simp only [G2,T5]
   rfl) (Og a1 ((a0.2.1.length:Int) - 1) a0.1 a0.2.1) a0.2.1.length (by omega) (by simp [Og])
  have hL':G2 (Og a1 ((a0.2.1.length:Int) - 1) a0.1 a0.2.1) a1 ((a0.2.1.length:Int) - 1) a0.1 a0.2.1=_:=hL
  unfold Aot
  rw [hw]
  show (G2 (Og a1 ((a0.2.1.length:Int) - 1) a0.1 a0.2.1) a1 ((a0.2.1.length:Int) - 1) a0.1 a0.2.1).bind _=_
  rw [hL',List.take_length]
  show Bx _ _ _=_
  have hc1:decide (0≤a1)=true:=Ag h0
  have hc2:decide (a1 < nI a0.1.length)=true:=Ag h1
  unfold Yg
  rw [Ur (Bx _ _),Ur (fun r:Aa=>some ((r,()),()))]
  simp only [Bx,hc1,hc2,cond_true]
  rfl
 ·cases h
def As7 {R:Type} (k:Kt R):=(Bx (I3 (Se 3) (.exit 0) 2 k) (I3 (Se 3) .ret 1 k))
def Bai {R:Type}:Lt R Se:=(Ea (pat:=Se) 3 (fun d k=>(Bc5 d).bind (As7 k)) Hn)
theorem A34:A2 Tryz.prog A33:=A5 trivial
theorem Bc6 {R:Type}:A4 Tryz.prog R 33 0 Se Bai As6:=
 B8 (cfg:=⟨A33,0,33,Se⟩) 3 [] (fun NX X d=>(u4 Ae) (T5  NX (fun e=>X (.inl (e))) (fun e=>X (.inr (e)))) d) (fun m d=>(u4 Ae) (G2 m) d) (fun d=>(u4 Ae) Og d) As7 A34 trivial (fun f NX d=>by simp only [u4,Ac,Ae]; unfold T5; simp only [nb])
theorem A35:Bs Tryz.prog 174 Aos:=
 A3 (pat:=Se) [As6] Bai A34 ⟨Bc6,trivial⟩ Tryz.func174 (de:=fun x=>Aot x.1 x.2.1) (fun x r h=>F1 (Bld x.1 x.2.1) h) fun _=>by kernel_rfl
def A8 (d:Dk) (w:Int):Rt:=Aw d w
def Vb (v1 v6:Int) (b0_0:List Aa) (b0_1:List Wr) (b1_0 b1_1 b1_2 b1_3 b2_0 b2_1 b2_2 b2_3:Int):Nat:=3
def A1w:Gc:=⟨[.rd yDk,.rd tI],[some 2,none],[.rd yRt],[some 4]⟩
def Ahr:SD:=⟨A1w,fun x=>some (((A8 x.1 x.2.1),()),(()))⟩
def Ahs:Tb:=tb [(53,O8),(94,Hz),(95,Dm),(148,Ant),(174,Aos),(175,Rq)]
def Lq:Nat→C2×(Nat→C2):=F0 [(6,⟨[.boxSl 2 0 .str,.boxSl 2 1 Em],[(1,.lf (.d tI)),(2,.lf (.ptr 0 0)),(4,.lf (.ptr 1 0)),(5,.lf (.ptr 2 0)),(6,.lf (.d tI))],[.box 26 [.d (.sl .str),.d (.sl Em)],.box 28 [.d tI,.d tI,.d tI,.d tI],.box 28 [.d tI,.d tI,.d tI,.d tI]]⟩,[(2,⟨[],[(4,.lf (.ptr 0 0)),(5,.lf (.ptr 1 0))],[.box 28 [.d tI,.d tI,.d tI,.d tI],.box 28 [.d tI,.d tI,.d tI,.d tI]]⟩)])]
def Abv:Code:=(At (Bb Tryz.f97)).getD 0 .skip
def Qq {R:Type}  (NX:((Int)×(Int)×(List Aa)×(List Wr)×(Int)×(Int)×(Int)×(Int)×(Int)×(Int)×(Int)×(Int)×Unit)→Option R) (X2:((Int)×(Int)×(Int)×(Int)×(Int)×(Int)×(Int)×(Int)×Unit)→Option R) (v1:Int) (v6:Int) (b0_0:List Aa) (b0_1:List Wr) (b1_0:Int) (b1_1:Int) (b1_2:Int) (b1_3:Int) (b2_0:Int) (b2_1:Int) (b2_2:Int) (b2_3:Int):Option R:=
 bif decide (v6 < 2) then ((Va (b0_0,b0_1,()) v6).bind fun val=>some ((val,()),())).bind fun val=>bif !(Ai val.1.1 v1).2 then NX (v1,IntKind.i64.wrap (v6 + 1),b0_0,b0_1,b1_0,b1_1,b1_2,b1_3,b2_0,b2_1,b2_2,b2_3,()) else bif (Ai val.1.1 v1).1.1 != 4 then NX (v1,IntKind.i64.wrap (v6 + 1),b0_0,b0_1,b1_0,b1_1,b1_2,b1_3,b2_0,b2_1,b2_2,b2_3,()) else bif nI (ByteArray.size (Ai val.1.1 v1).1.2.2.2.1) != 5 then NX (v1,IntKind.i64.wrap (v6 + 1),b0_0,b0_1,b1_0,b1_1,b1_2,b1_3,b2_0,b2_1,b2_2,b2_3,()) else bif Int.tmod (Ai val.1.1 v1).1.2.2.1 2 != v6 then NX (v1,IntKind.i64.wrap (v6 + 1),b0_0,b0_1,b1_0,b1_1,b1_2,b1_3,b2_0,b2_1,b2_2,b2_3,()) else bif decide (0 < nI (ByteArray.size (Ai val.1.1 v1).1.2.2.2.1)) then bif decide (1≤nI (ByteArray.size (Ai val.1.1 v1).1.2.2.2.1)) then ((Qg (Ah (Ai val.1.1 v1).1.2.2.2.1 1 (nI (ByteArray.size (Ai val.1.1 v1).1.2.2.2.1)))).bind fun val=>some ((val,()),())).bind fun val_1=>bif I6 ((Ai val.1.1 v1).1.2.2.1,IntKind.i64.wrap (Ap (Ai val.1.1 v1).1.2.2.2.1 0),val_1.1.1,(Ai val.1.1 v1).1.2.1,()) then bif decide ((Ai val.1.1 v1).1.2.2.1 > b2_0) then NX (v1,IntKind.i64.wrap (v6 + 1),b0_0,b0_1,b1_0,b1_1,b1_2,b1_3,(Ai val.1.1 v1).1.2.2.1,IntKind.i64.wrap (Ap (Ai val.1.1 v1).1.2.2.2.1 0),val_1.1.1,(Ai val.1.1 v1).1.2.1,()) else NX (v1,IntKind.i64.wrap (v6 + 1),b0_0,b0_1,b1_0,b1_1,b1_2,b1_3,b2_0,b2_1,b2_2,b2_3,()) else NX (v1,IntKind.i64.wrap (v6 + 1),b0_0,b0_1,b1_0,b1_1,b1_2,b1_3,b2_0,b2_1,b2_2,b2_3,()) else none else none else X2 (b1_0,b1_1,b1_2,b1_3,b2_0,b2_1,b2_2,b2_3,())
def Hj:Nat→(Int)→(Int)→(List Aa)→(List Wr)→(Int)→(Int)→(Int)→(Int)→(Int)→(Int)→(Int)→(Int) →  Option ((Int)×(Int)×(Int)×(Int)×(Int)×(Int)×(Int)×(Int)×Unit)
 | 0,_,_,_,_,_,_,_,_,_,_,_,_=>none
 | m + 1,v1,v6,b0_0,b0_1,b1_0,b1_1,b1_2,b1_3,b2_0,b2_1,b2_2,b2_3=>Qq  (fun d=>Hj m d.1 d.2.1 d.2.2.1 d.2.2.2.1 d.2.2.2.2.1 d.2.2.2.2.2.1 d.2.2.2.2.2.2.1 d.2.2.2.2.2.2.2.1 d.2.2.2.2.2.2.2.2.1 d.2.2.2.2.2.2.2.2.2.1 d.2.2.2.2.2.2.2.2.2.2.1 d.2.2.2.2.2.2.2.2.2.2.2.1) (fun d=>some (d)) v1 v6 b0_0 b0_1 b1_0 b1_1 b1_2 b1_3 b2_0 b2_1 b2_2 b2_3
def Avx (d:(Int)×(Int)×(List Aa)×(List Wr)×(Int)×(Int)×(Int)×(Int)×(Int)×(Int)×(Int)×(Int)×Unit):Option ((Int)×(Int)×(Int)×(Int)×(Int)×(Int)×(Int)×(Int)×Unit):=(u4 (u4 (u4 Ae))) (Hj ((u4 (u4 (u4 Ae))) Vb d)) d
def Y3 (a0:Dk) (a1:Int):Option (((Rt×Unit)×(Unit))):=
 bif !F4 a0 then some (((0,0,0,0,()),()),()) else bif !Ba a1 1 8 then some (((0,0,0,0,()),()),()) else ((fun d=>Hj (Vb d.1 d.2.1 d.2.2.1 d.2.2.2.1 d.2.2.2.2.1 d.2.2.2.2.2.1 d.2.2.2.2.2.2.1 d.2.2.2.2.2.2.2.1 d.2.2.2.2.2.2.2.2.1 d.2.2.2.2.2.2.2.2.2.1 d.2.2.2.2.2.2.2.2.2.2.1 d.2.2.2.2.2.2.2.2.2.2.2.1) d.1 d.2.1 d.2.2.1 d.2.2.2.1 d.2.2.2.2.1 d.2.2.2.2.2.1 d.2.2.2.2.2.2.1 d.2.2.2.2.2.2.2.1 d.2.2.2.2.2.2.2.2.1 d.2.2.2.2.2.2.2.2.2.1 d.2.2.2.2.2.2.2.2.2.2.1 d.2.2.2.2.2.2.2.2.2.2.2.1) (a1,0,a0.1,a0.2.1,0,0,0,0,0,0,1,0,())).bind fun val=>some ((val.2.2.2.2,()),())
theorem Ble (d:Dk) (hd:Iw d) (w:Int) (i:Nat) (hi:i < 2) (m:Nat) (x1 x2 x3 x4:Int) (b:Rt):
  Hj (m + 1) w i d.1 d.2.1 x1 x2 x3 x4 b.1 b.2.1 b.2.2.1 b.2.2.2.1=Hj m w ((i + 1:Nat):Int) d.1 d.2.1 x1 x2 x3 x4 (Hy (Yg d i) w i b).1 (Hy (Yg d i) w i b).2.1 (Hy (Yg d i) w i b).2.2.1 (Hy (Yg d i) w i b).2.2.2.1:=by
 have n8:=hd.n8
 have p3:=hd.p300
 have hs:Va (d.1,d.2.1,()) (i:Int)=some (Yg d i):=if_pos ⟨by show d.2.1.length≤_; omega,by omega,by show (i:Int) < (d.1.length:Int); omega⟩
 simp only [Hj,Qq]
 rw [Ag (show (i:Int) < 2 by omega),hs,wI (show i < 4611686018427387904 by omega)]
 simp only [Option.bind_some,cond_true]
 have e:Ai (Yg d i) w=Av (Yg d i) w:=rfl
 rw [e]
 unfold Hy
 have hf:=@Us (Yg d i) w
 generalize Av (Yg d i) w=p at *
 obtain ⟨g,o⟩:=p
 cases o
 ·rfl
 ·obtain ⟨_,_,_,hp⟩:=hf rfl
  obtain ⟨_,_,r3,_⟩:=Ank hp
  simp only [Bool.not_true,cond_false,Bool.true_and]
  by_cases h4:g.1=4
  ·rw [bne_eq_false_iff_eq.2 h4,show (g.1==4)=true from beq_iff_eq.2 h4]
   by_cases h5:g.2.2.2.1.size=5
   ·have n1:Qg (Ah g.2.2.2.1 1 (nI g.2.2.2.1.size))=some (Ang (Ah g.2.2.2.1 1 (nI g.2.2.2.1.size))):=if_pos (by rw [C6 (by omega) (by simp only [nI]; omega) (by simp [nI])]; simp only [nI]; omega)
    obtain ⟨b0,b1⟩:=J7 g.2.2.2.1 0
    rw [bne_eq_false_iff_eq.2 (show nI g.2.2.2.1.size=5 by simp only [nI]; omega),Ag h5,Int.tmod_eq_emod_of_nonneg (by omega)]
    simp only [n1,Option.bind_some,cond_false,Bool.true_and]
    rw [Ag (show 0 < nI g.2.2.2.1.size by simp only [nI]; omega),Ag (show 1≤nI g.2.2.2.1.size by simp only [nI]; omega),Aj (n:=Ap g.2.2.2.1 0) (by omega) (by omega)]
    by_cases h6:g.2.2.1 % 2=(i:Int)
    ·rw [bne_eq_false_iff_eq.2 h6,show (g.2.2.1 % 2==(i:Int))=true from beq_iff_eq.2 h6]
     show (bif Jo (F2 g) then _ else _)=_
     cases Jo (F2 g)
     ·rfl
     ·by_cases h7:g.2.2.1 > b.1
      ·rw [Ag h7]; rfl
      ·rw [Bd h7]; rfl
    ·rw [bne_iff_ne.2 h6,show (g.2.2.1 % 2==(i:Int))=false from beq_eq_false_iff_ne.2 h6]
     rfl
   ·rw [bne_iff_ne.2 (show nI g.2.2.2.1.size≠5 by simp only [nI]; omega),Bd h5]
    rfl
  ·rw [bne_iff_ne.2 h4,show (g.1==4)=false from beq_eq_false_iff_ne.2 h4]
   rfl
theorem A1x (a0:Dk) (a1:Int):Y3 a0 a1=some (((A8 a0 a1),()),(())):=by
 unfold Y3 A8 Aw
 show (bif !Ar a0 then _ else (bif !Bw a1 1 8 then _ else _))=_
 cases hv:Ar a0 with
 | false=>rfl
 | true=>
  cases hw:Bw a1 1 8 with
  | false=>rfl
  | true=>
   have hd:=Ix hv
   have h1:=Ble a0 hd a1 0 (by omega) 2 0 0 0 0 (0,0,1,0,())
   have h2:=Ble a0 hd a1 1 (by omega) 1 0 0 0 0 (Hy (Yg a0 (0:Nat)) a1 (0:Nat) (0,0,1,0,()))
   have h3:=h1.trans h2
   refine bi_ h3 ?_
   rfl
def Abw {R:Type} (k:Kt R):=(I3 (Lq 6) (.exit 0) 2 k)
def Ak1 {R:Type}:Lt R Lq:=(Ea (pat:=Lq) 6 (fun d k=>(Avx d).bind (Abw k)) Hn)
theorem Aht:A2 Tryz.prog Ahs:=A5 ⟨S3,J8,D2,A3y,A35,Ws,trivial⟩
theorem Avy {R:Type}:A4 Tryz.prog R 76 0 Lq Ak1 Abv:=
 B8 (cfg:=⟨Ahs,0,76,Lq⟩) 6 [] (fun NX X d=>(u4 (u4 (u4 Ae))) (Qq  NX X) d) (fun m d=>(u4 (u4 (u4 Ae))) (Hj m) d) (fun d=>(u4 (u4 (u4 Ae))) Vb d) Abw Aht trivial (fun f NX d=>by simp only [u4,Ac,Ae]; unfold Qq; simp only [nb])
theorem A1y:Bs Tryz.prog 97 Ahr:=
 A3 (pat:=Lq) [Abv] Ak1 Aht ⟨Avy,trivial⟩ Tryz.func97 (de:=fun x=>Y3 x.1 x.2.1) (fun x r h=>(A1x x.1 x.2.1).trans h) fun _=>by kernel_rfl
def Hs (d:Dk) (from_ size first life w:Int):Scd:=V9 d from_ size first life w
def Bh2:Gc:=⟨[.rd yDk,.rd tI,.rd tI,.rd tI,.rd tI,.rd tI],[some 2,none,none,none,none,none],[.own 9 .str,.rd tI,.rd tI],[some 3]⟩
def Ayh:SD:=⟨Bh2,fun x=>some (((Hs x.1 x.2.1 x.2.2.1 x.2.2.2.1 x.2.2.2.2.1 x.2.2.2.2.2.1).1,(Hs x.1 x.2.1 x.2.2.1 x.2.2.2.1 x.2.2.2.2.1 x.2.2.2.2.2.1).2.1,(Hs x.1 x.2.1 x.2.2.1 x.2.2.2.1 x.2.2.2.2.1 x.2.2.2.2.2.1).2.2.1,()),(()))⟩
def Ayi:Tb:=tb [(53,O8),(94,Hz),(95,Dm),(174,Aos)]
def S7:Nat→C2×(Nat→C2):=F0 [(9,⟨[.boxSl 6 0 .str,.boxSl 6 1 Em,.boxRow 12 0 9 .str,.boxRow 13 0 9 .str],[(1,.lf (.d tI)),(2,.lf (.d tI)),(3,.lf (.d tI)),(5,.lf (.d tI)),(6,.lf (.ptr 0 0)),(12,.lf (.ptr 1 0)),(13,.lf (.ptr 2 0)),(14,.lf (.d .bool)),(15,.lf (.d .str)),(16,.lf (.d tI)),(17,.lf (.d tI))],[.box 26 [.d (.sl .str),.d (.sl Em)],.box 135 [.row 3,.d tI,.d tI],.box 135 [.row 4,.d tI,.d tI],.row 9 .str,.row 9 .str]⟩,[(2,⟨[.boxRow 12 0 9 .str,.boxRow 13 0 9 .str],[(12,.lf (.ptr 0 0)),(13,.lf (.ptr 1 0))],[.box 135 [.row 2,.d tI,.d tI],.box 135 [.row 3,.d tI,.d tI],.row 9 .str,.row 9 .str]⟩)])]
def Aou:Code:=(At (Bb Tryz.f98)).getD 0 .skip
def J1 (v1 v2:Int) (v3 v5:Int) (v14:Bool) (v15:Aa) (v16 v17:Int) (b0_0:List Aa) (b0_1:List Wr) (b1_1 b1_2:Int) (b2_1 b2_2:Int) (r3 r4:List Aa):Nat:=(v2 - v17).toNat + 1
def Sf {R:Type}  (NX:((Int)×(Int)×(Int)×(Int)×(Bool)×(Aa)×(Int)×(Int)×(List Aa)×(List Wr)×(Int)×(Int)×(Int)×(Int)×(List Aa)×(List Aa)×Unit)→Option R) (X2:((Int)×(Int)×(Int)×(Int)×(List Aa)×(List Aa)×Unit)→Option R) (v1:Int) (v2:Int) (v3:Int) (v5:Int) (v14:Bool) (v15:Aa) (v16:Int) (v17:Int) (b0_0:List Aa) (b0_1:List Wr) (b1_1:Int) (b1_2:Int) (b2_1:Int) (b2_2:Int) (r3:List Aa) (r4:List Aa):Option R:=
 bif decide (v17 < v2) then ((Va (b0_0,b0_1,()) (IntKind.i64.wrap (v1 + v17))).bind fun val=>some ((val,()),())).bind fun val=>bif !(Ai val.1.1 v5).2 then X2 (b1_1,b1_2,b2_1,b2_2,r3,r4,()) else bif IntKind.i64.wrap ((Ai val.1.1 v5).1.2.2.1 - v17) != v3 then X2 (b1_1,b1_2,b2_1,b2_2,r3,r4,()) else bif decide ((Ai val.1.1 v5).1.2.1 < v16) then X2 (b1_1,b1_2,b2_1,b2_2,r3,r4,()) else bif v14 then bif (Ai val.1.1 v5).1.2.1 != v16 then X2 (b1_1,b1_2,b2_1,b2_2,r3,r4,()) else bif (Ai val.1.1 v5).1.1==3 then X2 (b1_1,b1_2,b2_1,b2_2,r3,r4,()) else bif (Ai val.1.1 v5).1.1==4 then X2 (b1_1,b1_2,b2_1,b2_2,r3,r4,()) else bif (Ai val.1.1 v5).1.1==1 then bif decide (v15.size + ByteArray.size (Ai val.1.1 v5).1.2.2.2.1≤9223372036854775807) then NX (v1,v2,v3,v5,true,v15++(Ai val.1.1 v5).1.2.2.2.1,(Ai val.1.1 v5).1.2.1,IntKind.i64.wrap (v17 + 1),b0_0,b0_1,b1_1,b1_2,b2_1,b2_2,r3,r4,()) else none else bif (Ai val.1.1 v5).1.1==2 then bif decide (v15.size + ByteArray.size (Ai val.1.1 v5).1.2.2.2.1≤9223372036854775807) then bif decide ((r4.length + [v15++(Ai val.1.1 v5).1.2.2.2.1].length) * 16≤140737488355328) then NX (v1,v2,v3,v5,false,Ad,(Ai val.1.1 v5).1.2.1,IntKind.i64.wrap (v17 + 1),b0_0,b0_1,b1_1,b1_2,IntKind.i64.wrap (v17 + 1),(Ai val.1.1 v5).1.2.1,r3,r4++[v15++(Ai val.1.1 v5).1.2.2.2.1],()) else none else none else bif (Ai val.1.1 v5).1.1==3 then NX (v1,v2,v3,v5,v14,v15,(Ai val.1.1 v5).1.2.1,IntKind.i64.wrap (v17 + 1),b0_0,b0_1,b1_1,b1_2,IntKind.i64.wrap (v17 + 1),(Ai val.1.1 v5).1.2.1,r3,r4,()) else NX (v1,v2,v3,v5,v14,v15,(Ai val.1.1 v5).1.2.1,IntKind.i64.wrap (v17 + 1),b0_0,b0_1,b1_1,b1_2,b2_1,b2_2,r3,r4,()) else bif (Ai val.1.1 v5).1.1==4 then X2 (b1_1,b1_2,b2_1,b2_2,r3,r4,()) else bif (Ai val.1.1 v5).1.1==1 then bif decide (v15.size + ByteArray.size (Ai val.1.1 v5).1.2.2.2.1≤9223372036854775807) then NX (v1,v2,v3,v5,true,v15++(Ai val.1.1 v5).1.2.2.2.1,(Ai val.1.1 v5).1.2.1,IntKind.i64.wrap (v17 + 1),b0_0,b0_1,b1_1,b1_2,b2_1,b2_2,r3,r4,()) else none else bif (Ai val.1.1 v5).1.1==2 then bif decide (v15.size + ByteArray.size (Ai val.1.1 v5).1.2.2.2.1≤9223372036854775807) then bif decide ((r4.length + [v15++(Ai val.1.1 v5).1.2.2.2.1].length) * 16≤140737488355328) then NX (v1,v2,v3,v5,false,Ad,(Ai val.1.1 v5).1.2.1,IntKind.i64.wrap (v17 + 1),b0_0,b0_1,b1_1,b1_2,IntKind.i64.wrap (v17 + 1),(Ai val.1.1 v5).1.2.1,r3,r4++[v15++(Ai val.1.1 v5).1.2.2.2.1],()) else none else none else bif (Ai val.1.1 v5).1.1==3 then NX (v1,v2,v3,v5,v14,v15,(Ai val.1.1 v5).1.2.1,IntKind.i64.wrap (v17 + 1),b0_0,b0_1,b1_1,b1_2,IntKind.i64.wrap (v17 + 1),(Ai val.1.1 v5).1.2.1,r3,r4,()) else NX (v1,v2,v3,v5,v14,v15,(Ai val.1.1 v5).1.2.1,IntKind.i64.wrap (v17 + 1),b0_0,b0_1,b1_1,b1_2,b2_1,b2_2,r3,r4,()) else X2 (b1_1,b1_2,b2_1,b2_2,r3,r4,())
def H7:Nat→(Int)→(Int)→(Int)→(Int)→(Bool)→(Aa)→(Int)→(Int)→(List Aa)→(List Wr)→(Int)→(Int)→(Int)→(Int)→(List Aa)→(List Aa) →  Option ((Int)×(Int)×(Int)×(Int)×(List Aa)×(List Aa)×Unit)
 | 0,_,_,_,_,_,_,_,_,_,_,_,_,_,_,_,_=>none
 | m + 1,v1,v2,v3,v5,v14,v15,v16,v17,b0_0,b0_1,b1_1,b1_2,b2_1,b2_2,r3,r4=>Sf  (fun d=>H7 m d.1 d.2.1 d.2.2.1 d.2.2.2.1 d.2.2.2.2.1 d.2.2.2.2.2.1 d.2.2.2.2.2.2.1 d.2.2.2.2.2.2.2.1 d.2.2.2.2.2.2.2.2.1 d.2.2.2.2.2.2.2.2.2.1 d.2.2.2.2.2.2.2.2.2.2.1 d.2.2.2.2.2.2.2.2.2.2.2.1 d.2.2.2.2.2.2.2.2.2.2.2.2.1 d.2.2.2.2.2.2.2.2.2.2.2.2.2.1 d.2.2.2.2.2.2.2.2.2.2.2.2.2.2.1 d.2.2.2.2.2.2.2.2.2.2.2.2.2.2.2.1) (fun d=>some (d)) v1 v2 v3 v5 v14 v15 v16 v17 b0_0 b0_1 b1_1 b1_2 b2_1 b2_2 r3 r4
def Baj (d:(Int)×(Int)×(Int)×(Int)×(Bool)×(Aa)×(Int)×(Int)×(List Aa)×(List Wr)×(Int)×(Int)×(Int)×(Int)×(List Aa)×(List Aa)×Unit):Option ((Int)×(Int)×(Int)×(Int)×(List Aa)×(List Aa)×Unit):=(u4 (u4 (u4 (u4 Ae)))) (H7 ((u4 (u4 (u4 (u4 Ae)))) J1 d)) d
def Aj7 (a0:Dk) (a1 a2:Int) (a3 a4 a5:Int):Option ((((List Aa)×(Int)×(Int)×Unit)×(Unit))):=
 bif !F4 a0 then some (([],0,0,()),()) else bif !Ba a5 1 8 then some (([],0,0,()),()) else bif decide (a1 < 0) then some (([],0,0,()),()) else bif decide (a2 < 0) then some (([],0,0,()),()) else bif decide (a1 > nI (List.length a0.1)) then some (([],0,0,()),()) else bif decide (a2 > IntKind.i64.wrap (nI (List.length a0.1) - a1)) then some (([],0,0,()),()) else ((fun d=>H7 (J1 d.1 d.2.1 d.2.2.1 d.2.2.2.1 d.2.2.2.2.1 d.2.2.2.2.2.1 d.2.2.2.2.2.2.1 d.2.2.2.2.2.2.2.1 d.2.2.2.2.2.2.2.2.1 d.2.2.2.2.2.2.2.2.2.1 d.2.2.2.2.2.2.2.2.2.2.1 d.2.2.2.2.2.2.2.2.2.2.2.1 d.2.2.2.2.2.2.2.2.2.2.2.2.1 d.2.2.2.2.2.2.2.2.2.2.2.2.2.1 d.2.2.2.2.2.2.2.2.2.2.2.2.2.2.1 d.2.2.2.2.2.2.2.2.2.2.2.2.2.2.2.1) d.1 d.2.1 d.2.2.1 d.2.2.2.1 d.2.2.2.2.1 d.2.2.2.2.2.1 d.2.2.2.2.2.2.1 d.2.2.2.2.2.2.2.1 d.2.2.2.2.2.2.2.2.1 d.2.2.2.2.2.2.2.2.2.1 d.2.2.2.2.2.2.2.2.2.2.1 d.2.2.2.2.2.2.2.2.2.2.2.1 d.2.2.2.2.2.2.2.2.2.2.2.2.1 d.2.2.2.2.2.2.2.2.2.2.2.2.2.1 d.2.2.2.2.2.2.2.2.2.2.2.2.2.2.1 d.2.2.2.2.2.2.2.2.2.2.2.2.2.2.2.1) (a1,a2,a3,a5,false,Ad,a4,0,a0.1,a0.2.1,0,0,0,a4,[],[],())).bind fun val=>some ((val.2.2.2.2.2.1,val.2.2.1,val.2.2.2.1,()),())
def Blf (v:Int×Int×Int×Int×List Aa×List Aa×Unit):Scd:=(v.2.2.2.2.2.1,v.2.2.1,v.2.2.2.1,())
theorem Bak {d:Dk} (hd:Iw d) (f n:Nat) (hfn:f + n≤d.1.length) (first w b1 b2:Int) (r3:List Aa):∀ (k m i:Nat) (st:Yk),i + k=n→k < m→Ako i st→(st.1≠1→st.2.2.1=z0)→
  ∃ y,H7 m f n first w (st.1==1) st.2.2.1 st.2.1 i d.1 d.2.1 b1 b2 st.2.2.2.2.1 st.2.2.2.2.2 r3 st.2.2.2.1=some y∧Blf y=Cw w first (seen d f i k) i st
 | 0,m + 1,i,st,hi,_,_,_=>by
  simp only [H7,Sf]
  rw [Bd (show ¬ (i:Int) < (n:Int) by omega)]
  exact ⟨_,rfl,rfl⟩
 | k + 1,m + 1,i,st,hi,hm,hI,hz=>by
  have h200:=hd.n200
  have e1:IntKind.i64.wrap ((f:Int) + (i:Int))=(f:Int) + (i:Int):=Aj (by omega) (by omega)
  have e2:Va (d.1,d.2.1,()) ((f:Int) + (i:Int))=some (Yg d ((f:Int) + (i:Int))):=if_pos ⟨Nat.le_trans hd.p300 (by decide),by omega,by show _ < (d.1.length:Int); omega⟩
  have e4:IntKind.i64.wrap ((i:Int) + 1)=((i + 1:Nat):Int):=wI (by omega)
  have es:seen d f i (k + 1)=Yg d ((f:Int) + (i:Int))::seen d f (i + 1) k:=rfl
  simp only [H7,Sf]
  rw [es,Ag (show (i:Int) < (n:Int) by omega)]
  simp only [e1,e2,e4,cond_true,Option.bind_some,Ai]
  unfold Cw G1
  generalize hx:Yg d ((f:Int) + (i:Int))=x
  obtain ⟨p,ok,hR⟩:∃ p ok,Av x w=(p,ok):=⟨_,_,rfl⟩
  simp only [hR]
  cases ok with
  | false=>exact ⟨_,rfl,rfl⟩
  | true=>
   obtain ⟨q1,q2,q3⟩:=A6x hR
   have e5:IntKind.i64.wrap (p.2.2.1 - (i:Int))=p.2.2.1 - (i:Int):=Aj (by omega) (by omega)
   simp only [e5,Bool.not_true,cond_false,Bool.true_and,bne]
   cases hn:(p.2.2.1 - (i:Int)==first) with
   | false=>exact ⟨_,rfl,rfl⟩
   | true=>
    simp only [Bool.not_true,cond_false,Bool.true_and]
    have hN:=hI.next (p:=p) (by omega) q3
    have e6:decide (ByteArray.size st.2.2.1 + ByteArray.size p.2.2.2.1≤9223372036854775807)=true:=Ag (by have:=hI.2.1; omega)
    have e7:decide ((List.length st.2.2.2.1 + 1) * 16≤140737488355328)=true:=Ag (by have:=hI.2.2; omega)
    simp only [e6,cond_true,Et,e7]
    have ei:(i:Int) + 1=((i + 1:Nat):Int):=by omega
    have ih:=fun hz=>Bak hd f n hfn first w b1 b2 r3 k m (i + 1) (C3 i p st) (by omega) (by omega) hN hz
    unfold C3 at ih ⊢
    unfold Zu
    rw [ei]
    rw [ei] at ih
    have hk:p.1=1∨p.1=2∨p.1=3∨p.1=4:=by omega
    cases hlt:decide (p.2.1 < st.2.1) with
    | true=>exact ⟨_,rfl,rfl⟩
    | false=>
     simp only [cond_false]
     have eqc:(p.2.1==st.2.1)=(st.2.1==p.2.1):=by
      by_cases q:p.2.1=st.2.1
      ·rw [q]
      ·rw [beq_eq_false_iff_ne.2 q,beq_eq_false_iff_ne.2 (Ne.symm q)]
     rw [eqc]
     rcases hk with hp | hp | hp | hp
     ·rw [hp] at ih ⊢
      have ih:=ih (fun q=>absurd rfl q)
      cases ho:(st.1==1) with
      | false=>
       have hb:(st.1 != 1)=true:=by simp only [bne,ho,Bool.not_false]
       rw [hb]
       exact ih
      | true=>
       have hb:(st.1 != 1)=false:=by simp only [bne,ho,Bool.not_true]
       rw [hb]
       cases (st.2.1==p.2.1) with
       | false=>exact ⟨_,rfl,rfl⟩
       | true=>exact ih
     ·rw [hp] at ih ⊢
      have ih:=ih (fun _=>rfl)
      cases ho:(st.1==1) with
      | false=>
       have hb:(st.1 != 1)=true:=by simp only [bne,ho,Bool.not_false]
       rw [hb]
       exact ih
      | true=>
       have hb:(st.1 != 1)=false:=by simp only [bne,ho,Bool.not_true]
       rw [hb]
       cases (st.2.1==p.2.1) with
       | false=>exact ⟨_,rfl,rfl⟩
       | true=>exact ih
     ·rw [hp] at ih ⊢
      have ih:=ih (fun _=>rfl)
      cases ho:(st.1==1) with
      | false=>
       have hb:(st.1 != 1)=true:=by simp only [bne,ho,Bool.not_false]
       have hs:=hz (fun q=>by rw [q] at ho; cases ho)
       rw [hb,hs]
       exact ih
      | true=>
       have hb:(st.1 != 1)=false:=by simp only [bne,ho,Bool.not_true]
       rw [hb]
       cases (st.2.1==p.2.1)<;>exact ⟨_,rfl,rfl⟩
     ·rw [hp]
      cases ho:(st.1==1) with
      | false=>exact ⟨_,rfl,rfl⟩
      | true=>
       cases (st.2.1==p.2.1)<;>exact ⟨_,rfl,rfl⟩
theorem Bh3 (a0:Dk) (a1 a2:Int) (a3 a4 a5:Int):Aj7 a0 a1 a2 a3 a4 a5=some (((Hs a0 a1 a2 a3 a4 a5).1,(Hs a0 a1 a2 a3 a4 a5).2.1,(Hs a0 a1 a2 a3 a4 a5).2.2.1,()),(())):=by
 unfold Aj7 Hs V9
 show (bif !Ar a0 then _ else bif !Bw a5 1 8 then _ else _)=_
 cases hv:Ar a0 with
 | false=>rfl
 | true=>
  have hd:=Ix hv
  cases hw:Bw a5 1 8 with
  | false=>rfl
  | true=>
   simp only [Bool.not_true,cond_false]
   have h200:=hd.n200
   by_cases h1:a1 < 0
   ·rw [Ag h1,Bd (show ¬ 0≤a1 by omega)]; rfl
   ·rw [Bd h1,Ag (show 0≤a1 by omega)]
    by_cases h2:a2 < 0
    ·rw [Ag h2,Bd (show ¬ 0≤a2 by omega)]; rfl
    ·rw [Bd h2,Ag (show 0≤a2 by omega)]
     by_cases h3:a1 > nI a0.1.length
     ·rw [Ag h3,Bd (show ¬ a1≤(a0.1.length:Int) by simp only [nI] at h3; omega)]; rfl
     ·have h3':a1≤(a0.1.length:Int):=by simp only [nI] at h3; omega
      rw [Bd h3,Ag h3']
      rw [Aj (n:=nI a0.1.length - a1) (by simp only [nI]; omega) (by simp only [nI]; omega)]
      by_cases h4:a2 > nI a0.1.length - a1
      ·rw [Ag h4,Bd (show ¬ a2≤(a0.1.length:Int) - a1 by simp only [nI] at h4; omega)]; rfl
      ·have h4':a2≤(a0.1.length:Int) - a1:=by simp only [nI] at h4; omega
       rw [Bd h4,Ag h4']
       simp only [cond_false,cond_true,Bool.true_and,Bool.and_self]
       obtain ⟨f,rfl⟩:∃ f:Nat,a1=(f:Int):=⟨a1.toNat,by omega⟩
       obtain ⟨n,rfl⟩:∃ n:Nat,a2=(n:Int):=⟨a2.toNat,by omega⟩
       have hfu:n < J1 f n a3 a5 false (Ad) a4 0 a0.1 a0.2.1 0 0 0 a4 [] []:=by simp only [J1]; omega
       obtain ⟨y,hy1,hy2⟩:=Bak hd f n (by omega) a3 a5 0 0 [] n (J1 f n a3 a5 false (Ad) a4 0 a0.1 a0.2.1 0 0 0 a4 [] []) 0 (0,a4,z0,[],0,a4) (Nat.zero_add _) hfu (Ako.zero _ _ _ _) (fun _=>rfl)
       show (H7 (J1 f n a3 a5 false (Ad) a4 0 a0.1 a0.2.1 0 0 0 a4 [] []) f n a3 a5 false (Ad) a4 0 a0.1 a0.2.1 0 0 0 a4 [] []).bind _=_
       have hy1':H7 (J1 f n a3 a5 false (Ad) a4 0 a0.1 a0.2.1 0 0 0 a4 [] []) f n a3 a5 false (Ad) a4 0 a0.1 a0.2.1 0 0 0 a4 [] []=some y:=hy1
       rw [hy1',En]
       simp only [Option.bind_some]
       have hy3:Blf y=Cw a5 a3 (seen a0 (f:Int) 0 n) 0 (0,a4,z0,[],0,a4):=hy2
       rw [← hy3]
       rfl
def Aov {R:Type} (k:Kt R):=(I3 (S7 9) (.exit 0) 2 k)
def A36 {R:Type}:Lt R S7:=(Ea (pat:=S7) 9 (fun d k=>(Baj d).bind (Aov k)) Hn)
theorem Ayj:A2 Tryz.prog Ayi:=A5 ⟨S3,J8,D2,A35,trivial⟩
theorem Bal {R:Type}:A4 Tryz.prog R 140 0 S7 A36 Aou:=
 B8 (cfg:=⟨Ayi,0,140,S7⟩) 9 [] (fun NX X (d:(Int)×(Int)×(Int)×(Int)×(Bool)×(Aa)×(Int)×(Int)×(List Aa)×(List Wr)×(Int)×(Int)×(Int)×(Int)×(List Aa)×(List Aa)×Unit)=>(u4 (u4 (u4 (u4 Ae)))) (Sf  NX X) d) (fun m d=>(u4 (u4 (u4 (u4 Ae)))) (H7 m) d) (fun d=>(u4 (u4 (u4 (u4 Ae)))) J1 d) Aov Ayj trivial (fun f NX (d:(Int)×(Int)×(Int)×(Int)×(Bool)×(Aa)×(Int)×(Int)×(List Aa)×(List Wr)×(Int)×(Int)×(Int)×(Int)×(List Aa)×(List Aa)×Unit)=>by simp only [u4,Ac,Ae]; unfold Sf; simp only [nb])
theorem Bh4:Bs Tryz.prog 98 Ayh:=
 A3 (pat:=S7) [Aou] A36 Ayj ⟨Bal,trivial⟩ Tryz.func98 (de:=fun x=>Aj7 x.1 x.2.1 x.2.2.1 x.2.2.2.1 x.2.2.2.2.1 x.2.2.2.2.2.1) (fun x r h=>(Bh3 x.1 x.2.1 x.2.2.1 x.2.2.2.1 x.2.2.2.2.1 x.2.2.2.2.2.1).trans h) fun _=>by kernel_rfl
def Df (h n:Int):Int:=IntKind.i64.wrap (2 + IntKind.i64.wrap (h * Bv n))
def Bc7:Gc:=⟨[.rd tI,.rd tI],[none,none],[.rd tI],[none]⟩
def Zj:SD:=⟨Bc7,fun x=>some (((Df x.1 x.2.1),()),(()))⟩
def As8 (a0 a1:Int):Option ((((Int)×Unit)×(Unit))):=
 some ((IntKind.i64.wrap (2 + IntKind.i64.wrap (a0 * Bv a1)),()),())
theorem Bc8 (a0 a1:Int):As8 a0 a1=some (((Df a0 a1),()),(())):=rfl
theorem Afy:Bs Tryz.prog 99 Zj:=
 A3 (pat:=Dp) [] Hn (A5 (l:=[(96,O9)]) ⟨R6,trivial⟩) trivial Tryz.func99 (de:=fun x=>As8 x.1 x.2.1) (fun x r h=>(Bc8 x.1 x.2.1).trans h) fun _=>by kernel_rfl
def Hk (s:Aa):(Aa×Bool)×Aa:=(((Bm s).1,(Bm s).2.2),(Bm s).2.1)
def Ar1:Gc:=⟨[.bx 9 .str],[none],[.rd .str,.rd .bool],[none,none]⟩
def l8:SD:=⟨Ar1,fun x=>some (((Hk x.1).1.1,(Hk x.1).1.2,()),((Hk x.1).2,()))⟩
def Tn (a0:Aa):Option ((((Aa)×(Bool)×Unit)×((Aa)×Unit))):=
 bif decide (nI a0.size < 1) then some ((Ad,false,()),a0,()) else bif decide (0 < nI a0.size) then bif decide (nI a0.size < IntKind.i64.wrap (1 + IntKind.i64.wrap (Ap a0 0))) then some ((Ad,false,()),a0,()) else bif decide (0 < nI a0.size) then bif decide (1≤IntKind.i64.wrap (1 + IntKind.i64.wrap (Ap a0 0))) then bif decide (IntKind.i64.wrap (1 + IntKind.i64.wrap (Ap a0 0))≤nI a0.size) then bif decide (0 < nI a0.size) then bif decide (0≤IntKind.i64.wrap (1 + IntKind.i64.wrap (Ap a0 0))) then bif decide (IntKind.i64.wrap (1 + IntKind.i64.wrap (Ap a0 0))≤nI a0.size) then some ((Ah a0 1 (IntKind.i64.wrap (1 + IntKind.i64.wrap (Ap a0 0))),true,()),Ah a0 (IntKind.i64.wrap (1 + IntKind.i64.wrap (Ap a0 0))) (nI a0.size),()) else none else none else none else none else none else none else none
theorem Ar2 (a0:Aa):Tn a0=some (((Hk a0).1.1,(Hk a0).1.2,()),((Hk a0).2,())):=by
 unfold Tn Hk Bm
 obtain ⟨b0,b1⟩:=J7 a0 0
 have hw:IntKind.i64.wrap (1 + IntKind.i64.wrap (Ap a0 0))=1 + Ap a0 0:=by
  rw [Aj (n:=Ap a0 0) (by omega) (by omega),Aj (by omega) (by omega)]
 rw [hw]
 by_cases h0:(a0.size:Int) < 1
 ·rw [if_pos (Or.inl h0),Ag (show nI a0.size < 1 from h0)]
  rfl
 ·rw [Bd (show ¬ nI a0.size < 1 from h0),Ag (show 0 < nI a0.size by simp only [nI]; omega)]
  by_cases h1:(a0.size:Int) < 1 + Ap a0 0
  ·rw [if_pos (Or.inr h1),Ag (show nI a0.size < 1 + Ap a0 0 from h1)]
   rfl
  ·rw [if_neg (by omega),Bd (show ¬ nI a0.size < 1 + Ap a0 0 from h1),Ag (show 1≤1 + Ap a0 0 by omega),Ag (show 0≤1 + Ap a0 0 by omega),Ag (show 1 + Ap a0 0≤nI a0.size by simp only [nI]; omega)]
   rfl
theorem Ar3:Bs Tryz.prog 176 l8:=
 A3 (pat:=Dp) [] Hn (A5 (l:=[]) trivial) trivial Tryz.func176 (de:=fun x=>Tn x.1) (fun x r h=>(Ar2 x.1).trans h) fun _=>by kernel_rfl
def Ht (s:Aa):List Be×Bool:=Hv s
def To (r0:List Be) (b1:Aa):Nat:=22
def Ayk:Gc:=⟨[.rd .str],[none],[.own 99 Do,.rd .bool],[none,none]⟩
def Aec:SD:=⟨Ayk,fun x=>some (((Ht x.1).1,(Ht x.1).2,()),(()))⟩
def Aed:Tb:=tb [(118,Ha),(176,l8)]
def H8:Nat→C2×(Nat→C2):=F0 [(5,⟨[.row 4 0 99 Do],[(4,.lf (.row 0)),(5,.lf (.ptr 1 0)),(6,.fn 176 [.ptr 1 0])],[.row 99 Do,.box 9 [.d .str]]⟩,[(2,⟨[.row 4 0 99 Do],[(4,.lf (.row 0)),(5,.lf (.ptr 1 0))],[.row 99 Do,.box 9 [.d .str]]⟩),(1,⟨[.row 2 0 99 Do],[(2,.lf (.row 0)),(3,.lf (.d .bool))],[.row 99 Do]⟩)])]
def l9:Code:=(At (Bb Tryz.f100)).getD 0 .skip
def Ou {R:Type}  (NX:((List Be)×(Aa)×Unit)→Option R) (X2:((List Be)×(Aa)×Unit)→Option R) (X1:((Bool)×(List Be)×Unit)→Option R) (r0:List Be) (b1:Aa):Option R:=
 bif decide (nI b1.size > 0) then bif decide (nI r0.length≤20) then bif decide (0 < nI b1.size) then bif decide (1≤nI b1.size) then bif decide (Ap b1 0 > 1) then X1 (false,[],()) else bif !(Bm (Ah b1 1 (nI b1.size))).2.2 then X1 (false,[],()) else bif Ap b1 0==0 then bif !(Bm (Bm (Ah b1 1 (nI b1.size))).2.1).2.2 then X1 (false,[],()) else bif decide ((r0.length + [((Bm (Ah b1 1 (nI b1.size))).1,(Bm (Bm (Ah b1 1 (nI b1.size))).2.1).1,Ap b1 0==1,())].length) * 40≤140737488355328) then NX (r0++[((Bm (Ah b1 1 (nI b1.size))).1,(Bm (Bm (Ah b1 1 (nI b1.size))).2.1).1,Ap b1 0==1,())],(Bm (Bm (Ah b1 1 (nI b1.size))).2.1).2.1,()) else none else bif decide ((r0.length + [((Bm (Ah b1 1 (nI b1.size))).1,Ad,Ap b1 0==1,())].length) * 40≤140737488355328) then NX (r0++[((Bm (Ah b1 1 (nI b1.size))).1,Ad,Ap b1 0==1,())],(Bm (Ah b1 1 (nI b1.size))).2.1,()) else none else none else none else X2 (r0,b1,()) else X2 (r0,b1,())
def Il:Nat→(List Be)→(Aa) →  Option (((List Be)×(Aa)×Unit) ⊕ ((Bool)×(List Be)×Unit))
 | 0,_,_=>none
 | m + 1,r0,b1=>Ou  (fun d=>Il m d.1 d.2.1) (fun d=>some (.inl (d))) (fun d=>some (.inr (d))) r0 b1
def Ar4 (d:(List Be)×(Aa)×Unit):Option (((List Be)×(Aa)×Unit) ⊕ ((Bool)×(List Be)×Unit)):=(Ac (Ac Ae)) (Il ((Ac (Ac Ae)) To d)) d
def W5 (a0:Aa):Option ((((List Be)×(Bool)×Unit)×(Unit))):=
 ((fun d=>Il (To d.1 d.2.1) d.1 d.2.1) ([],a0,())).bind fun val=>Bx (fun d=>bif decide (nI (ByteArray.size d.2.1) > 0) then some (([],false,()),()) else bif !H0 d.1 then some (([],false,()),()) else some ((d.1,true,()),())) (fun d=>some ((d.2.1,d.1,()),())) val
def Bza (o:Option (List Be×Aa)):(List Be×Aa×Unit) ⊕ (Bool×List Be×Unit):=match o with
 | some (b,t)=>.inl (b,t,())
 | none=>.inr (false,[],())
theorem Bam:∀ (f m:Nat) (r:List Be) (s:Aa),r.length + f=22→f≤m→1≤f→Il m r s=some (Bza (Uq true f r s))
 | 0,_,_,_,_,_,h=>by omega
 | f + 1,0,_,_,_,h,_=>by omega
 | f + 1,m + 1,r,s,hf,hm,_=>by
  simp only [Il,Ou,Uq]
  by_cases hs:s.size > 0
  ·rw [Ag (show nI s.size > 0 by simp only [nI]; omega),Ag hs]
   by_cases hr:r.length≤20
   ·rw [Ag (show nI r.length≤20 by simp only [nI]; omega),Ag hr,Ag (show 1≤nI s.size by simp only [nI]; omega)]
    unfold A3g
    obtain ⟨b0,b1⟩:=J7 s 0
    generalize Bm (Ah s 1 (nI s.size))=p
    simp only [Et,Bool.true_and,cond_true,Bool.and_self]
    rw [Ag (show (r.length + 1) * 40≤140737488355328 by omega)]
    by_cases h1:Ap s 0 > 1
    ·rw [Ag h1]; rfl
    ·rw [Bd h1]
     obtain ⟨k,t,o⟩:=p
     cases o
     ·rfl
     ·by_cases h2:Ap s 0=0
      ·rw [h2]
       simp only [Bool.not_true,cond_false,cond_true]
       generalize Bm t=q
       obtain ⟨v,u,o⟩:=q
       cases o
       ·rfl
       ·exact Bam f m (r++[(k,v,false,())]) u (by rw [Ef,Et]; omega) (by omega) (by omega)
      ·have h3:Ap s 0=1:=by omega
       rw [h3]
       exact Bam f m (r++[(k,Ad,true,())]) t (by rw [Ef,Et]; omega) (by omega) (by omega)
   ·rw [Bd (show ¬ nI r.length≤20 by simp only [nI]; omega),Bd hr]
    rfl
  ·rw [Bd (show ¬ nI s.size > 0 by simp only [nI]; omega),Bd hs]
   rfl
theorem Ayl (a0:Aa):W5 a0=some (((Ht a0).1,(Ht a0).2,()),(())):=by
 unfold W5 Ht Hv
 have hL:=Bam 22 22 [] a0 rfl (Nat.le_refl _) (by omega)
 refine bi_ hL ?_
 cases Uq true 22 [] a0 with
 | none=>rfl
 | some bt=>
  obtain ⟨b,t⟩:=bt
  show (bif decide (nI t.size > 0) then _ else (bif !A0 b then _ else _))=_
  have e:decide (nI t.size > 0)=decide (t.size > 0):=decide_eq_decide.2 (by simp only [nI]; omega)
  rw [e]
  simp only
  cases decide (t.size > 0)<;>cases A0 b<;>rfl
def m5 {R:Type} (k:Kt R):=(Bx (I3 (H8 5) (.exit 0) 2 k) (I3 (H8 5) .ret 1 k))
def Ahu {R:Type}:Lt R H8:=(Ea (pat:=H8) 5 (fun d k=>(Ar4 d).bind (m5 k)) Hn)
theorem Aee:A2 Tryz.prog Aed:=A5 ⟨Qh,Ar3,trivial⟩
theorem Ar5 {R:Type}:A4 Tryz.prog R 63 0 H8 Ahu l9:=
 B8 (cfg:=⟨Aed,0,63,H8⟩) 5 [] (fun NX X d=>(Ac (Ac Ae)) (Ou  NX (fun e=>X (.inl (e))) (fun e=>X (.inr (e)))) d) (fun m d=>(Ac (Ac Ae)) (Il m) d) (fun d=>(Ac (Ac Ae)) To d) m5 Aee trivial (fun f NX d=>by simp only [u4,Ac,Ae]; unfold Ou; simp only [nb])
theorem Aym:Bs Tryz.prog 100 Aec:=
 A3 (pat:=H8) [l9] Ahu Aee ⟨Ar5,trivial⟩ Tryz.func100 (de:=fun x=>W5 x.1) (fun x r h=>(Ayl x.1).trans h) fun _=>by kernel_rfl
def G6 (s:B5) (b:List Be):B5×Int:=B7 s b
def Bc9:Gc:=⟨[.rd C8,.rd (.sl Do)],[some 1,none],[.own 157 Ax,.rd tI],[some 1,none]⟩
def Afz:SD:=⟨Bc9,fun x=>some (((G6 x.1 x.2.1).1.1,(G6 x.1 x.2.1).2,()),(()))⟩
def Zk:Tb:=⟨tbF [(118,Ha),(150,I5)],fun _=>none,none,none,some (177,178,31,29,157)⟩
def D6:Nat→C2×(Nat→C2):=F0 [(6,⟨[.sl 1 0 Do,.sl 25 0 Ax,.boxRow 4 0 157 Ax],[(1,.lf (.d (.sl Do))),(4,.lf (.ptr 0 0)),(6,.lf (.row 1)),(25,.lf (.d (.sl Ax))),(26,.lf (.d tI)),(27,.lf (.d tI))],[.box 31 [.row 2],.map .str,.row 157 Ax]⟩,[(2,⟨[.sl 1 0 Do,.boxRow 4 0 157 Ax],[(1,.lf (.d (.sl Do))),(4,.lf (.ptr 0 0)),(6,.lf (.row 1))],[.box 31 [.row 2],.map .str,.row 157 Ax]⟩)]),(11,⟨[.sl 37 0 Do,.boxRow 4 0 157 Ax],[(4,.lf (.ptr 0 0)),(6,.lf (.row 1)),(37,.lf (.d (.sl Do))),(38,.lf (.d tI)),(39,.lf (.d tI))],[.box 31 [.row 2],.map .str,.row 157 Ax]⟩,[(4,⟨[.boxRow 4 0 157 Ax],[(4,.lf (.ptr 0 0)),(6,.lf (.row 1))],[.box 31 [.row 2],.map .str,.row 157 Ax]⟩)]),(21,⟨[.boxRow 4 0 157 Ax,.boxRow 11 0 157 Ax],[(4,.lf (.ptr 0 0)),(11,.lf (.ptr 1 0)),(59,.lf (.row 2))],[.box 31 [.row 3],.box 31 [.row 4],.iter .str,.row 157 Ax,.row 157 Ax]⟩,[(6,⟨[.boxRow 4 0 157 Ax,.boxRow 11 0 157 Ax],[(4,.lf (.ptr 0 0)),(11,.lf (.ptr 1 0))],[.box 31 [.row 2],.box 31 [.row 3],.row 157 Ax,.row 157 Ax]⟩)])]
def Ak2:Code:=(At (Bb Tryz.f101)).getD 0 .skip
def Ahv:Code:=(At (Bb Tryz.f101)).getD 1 .skip
def Ahw:Code:=(At (Bb Tryz.f101)).getD 2 .skip
def S8 (i2 l2:List (Aa×Aa)) (c2:Option (Aa×Aa)) (r3 r4:List A1) (e0 e1:Aa) (e2:List (Aa×Aa)):Option ((List (Aa×Aa))×(List (Aa×Aa))×(Option (Aa×Aa))×(List A1)×(List A1)×Unit):=
 bif decide ((r4.length + [(e0,e1,())].length) * 32≤140737488355328) then some (i2,e2,some (e0,e1),r3,r4++[(e0,e1,())],()) else none
def Ahx (i2 l2:List (Aa×Aa)) (c2:Option (Aa×Aa)) (r3 r4:List A1):Option ((List A1)×(List A1)×Unit):=
 some (r3,r4,())
def Y4 {R:Type} (i2 l2:List (Aa×Aa)) (c2:Option (Aa×Aa)) (r3 r4:List A1) (kk:((List A1)×(List A1)×Unit)→Option R):Option R:=Bqk (fun d:((List (Aa×Aa))×(List (Aa×Aa))×(Option (Aa×Aa))×(List A1)×(List A1)×Unit)=>d.2.1) (fun d e l=>S8 d.1 d.2.1 d.2.2.1 d.2.2.2.1 d.2.2.2.2.1 e.1 e.2 l) (fun d=>(Ahx d.1 d.2.1 d.2.2.1 d.2.2.2.1 d.2.2.2.2.1).bind kk) (i2,l2,c2,r3,r4,())
def Lr (v37:List Be) (v38 v39:Int) (m1:List (Aa×Aa)) (r2:List A1):Nat:=(v38 - v39).toNat + 1
def Pl {R:Type}  (NX:((List Be)×(Int)×(Int)×(List (Aa×Aa))×(List A1)×Unit)→Option R) (X4:((List (Aa×Aa))×(List A1)×Unit)→Option R) (v37:List Be) (v38:Int) (v39:Int) (m1:List (Aa×Aa)) (r2:List A1):Option R:=
 bif decide (v39 < v38) then bif decide (0≤v39) then bif decide (v39 < nI v37.length) then bif (v37.getD v39.toNat (Ad,Ad,false,())).2.2.1 then NX (v37,v38,IntKind.i64.wrap (v39 + 1),Amz (v37.getD v39.toNat (Ad,Ad,false,())).1 m1,r2,()) else NX (v37,v38,IntKind.i64.wrap (v39 + 1),Tk (v37.getD v39.toNat (Ad,Ad,false,())).1 (v37.getD v39.toNat (Ad,Ad,false,())).2.1 m1,r2,()) else none else none else X4 (m1,r2,())
def Ez:Nat→(List Be)→(Int)→(Int)→(List (Aa×Aa))→(List A1) →  Option ((List (Aa×Aa))×(List A1)×Unit)
 | 0,_,_,_,_,_=>none
 | m + 1,v37,v38,v39,m1,r2=>Pl  (fun d=>Ez m d.1 d.2.1 d.2.2.1 d.2.2.2.1 d.2.2.2.2.1) (fun d=>some (d)) v37 v38 v39 m1 r2
def A1z (d:(List Be)×(Int)×(Int)×(List (Aa×Aa))×(List A1)×Unit):Option ((List (Aa×Aa))×(List A1)×Unit):=(u4 (Ac Ae)) (Ez ((u4 (Ac Ae)) Lr d)) d
def Nc (v1:List Be) (v25:List A1) (v26 v27:Int) (m1:List (Aa×Aa)) (r2:List A1):Nat:=(v26 - v27).toNat + 1
def Q0 {R:Type}  (NX:((List Be)×(List A1)×(Int)×(Int)×(List (Aa×Aa))×(List A1)×Unit)→Option R) (X2:((List Be)×(List (Aa×Aa))×(List A1)×Unit)→Option R) (v1:List Be) (v25:List A1) (v26:Int) (v27:Int) (m1:List (Aa×Aa)) (r2:List A1):Option R:=
 bif decide (v27 < v26) then bif decide (0≤v27) then bif decide (v27 < nI v25.length) then NX (v1,v25,v26,IntKind.i64.wrap (v27 + 1),Tk (v25.getD v27.toNat (Ad,Ad,())).1 (v25.getD v27.toNat (Ad,Ad,())).2.1 m1,r2,()) else none else none else X2 (v1,m1,r2,())
def Fr:Nat→(List Be)→(List A1)→(Int)→(Int)→(List (Aa×Aa))→(List A1) →  Option ((List Be)×(List (Aa×Aa))×(List A1)×Unit)
 | 0,_,_,_,_,_,_=>none
 | m + 1,v1,v25,v26,v27,m1,r2=>Q0  (fun d=>Fr m d.1 d.2.1 d.2.2.1 d.2.2.2.1 d.2.2.2.2.1 d.2.2.2.2.2.1) (fun d=>some (d)) v1 v25 v26 v27 m1 r2
def A40 (d:(List Be)×(List A1)×(Int)×(Int)×(List (Aa×Aa))×(List A1)×Unit):Option ((List Be)×(List (Aa×Aa))×(List A1)×Unit):=(u4 (Ac (Ac Ae))) (Fr ((u4 (Ac (Ac Ae))) Nc d)) d
def Af0 (a0:B5) (a1:List Be):Option ((((List A1)×(Int)×Unit)×(Unit))):=
 bif !Gq a0 then some (([],1,()),()) else bif !H0 a1 then some (([],1,()),()) else ((fun d=>Fr (Nc d.1 d.2.1 d.2.2.1 d.2.2.2.1 d.2.2.2.2.1 d.2.2.2.2.2.1) d.1 d.2.1 d.2.2.1 d.2.2.2.1 d.2.2.2.2.1 d.2.2.2.2.2.1) (a1,a0.1,nI (List.length a0.1),0,[],[],())).bind fun val=>((fun d=>Ez (Lr d.1 d.2.1 d.2.2.1 d.2.2.2.1 d.2.2.2.2.1) d.1 d.2.1 d.2.2.1 d.2.2.2.1 d.2.2.2.2.1) (val.1,nI (List.length val.1),0,val.2)).bind fun val=>bif decide (nI val.1.length > 100) then some (([],2,()),()) else (fun d kk=>Y4 d.1 d.2.1 d.2.2.1 d.2.2.2.1 d.2.2.2.2.1 kk) (val.1,val.1,none,val.2.1,[],()) fun d=>bif G0 d.2.1 then bif decide (d.2.1.length≤1000) then some ((List.foldr A4k [] d.2.1,0,()),()) else none else none
theorem Blg (v1:List Be) (xs:List A1) (hx:xs.length≤100):Fr (Nc v1 xs (nI xs.length) 0 [] []) v1 xs (nI xs.length) 0 [] []=some (v1,A88 xs,[],()):=by
 have hL:=E4 (xs:=xs) zP (fun _ _=>True) (fun _ p m=>Tk p.1 p.2.1 m) (g:=fun m i M=>Fr m v1 xs (nI xs.length) i M []) (ok:=fun M=>(v1,M,[],())) (fun m i M hi _=>by
   show Fr (m + 1) v1 xs (nI xs.length) i M []=_
   simp only [Fr,Q0]
   rw [Xv hi,G9,wI (show i < 4611686018427387904 by omega),En]
   rfl) (fun _ _ _ _=>trivial) (fun m M _=>by
   show Fr (m + 1) v1 xs (nI xs.length) (xs.length:Int) M []=_
   simp only [Fr,Q0]
   rw [Od]
   rfl) (Nc v1 xs (nI xs.length) 0 [] []) 0 [] (by omega) (by simp [Nc,nI]) trivial
 rw [List.drop_zero] at hL
 exact hL
theorem Bh5 (b:List Be) (m0:Mp) (hb:b.length≤20):Ez (Lr b (nI b.length) 0 m0 []) b (nI b.length) 0 m0 []=some (C9 (fun _ c m=>A3l c m) 0 b m0,[],()):=by
 have hL:=E4 (xs:=b) zC (fun _ _=>True) (fun _ c m=>A3l c m) (g:=fun m i M=>Ez m b (nI b.length) i M []) (ok:=fun M=>(M,[],())) (fun m i M hi _=>by
   show Ez (m + 1) b (nI b.length) i M []=_
   simp only [Ez,Pl]
   rw [Xv hi,G9,wI (show i < 4611686018427387904 by omega),En]
   simp only [cond_true]
   unfold A3l
   show (bif (List.getD b i zC).2.2.1 then _ else _)=_
   cases (List.getD b i zC).2.2.1<;>rfl) (fun _ _ _ _=>trivial) (fun m M _=>by
   show Ez (m + 1) b (nI b.length) (b.length:Int) M []=_
   simp only [Ez,Pl]
   rw [Od]
   rfl) (Lr b (nI b.length) 0 m0 []) 0 m0 (by omega) (by simp [Lr,nI]) trivial
 rw [List.drop_zero] at hL
 exact hL
theorem Bda (a0:B5) (a1:List Be):Af0 a0 a1=some (((G6 a0 a1).1.1,(G6 a0 a1).2,()),(())):=by
 unfold Af0 G6 B7
 show (bif !Ak a0 then _ else bif !A0 a1 then _ else _)=_
 cases hv:Ak a0 with
 | false=>rfl
 | true=>
  cases hb:A0 a1 with
  | false=>rfl
  | true=>
   simp only [Bool.not_true,cond_false]
   have hl:=Ca hv
   have hb2:=Cv (B6 hb).1
   refine Qe (Blg a1 a0.1 hl) ?_
   dsimp only
   refine Qe (Bh5 a1 (A88 a0.1) (by omega)) ?_
   dsimp only
   have hM:Ars (C9 (fun _ c m=>A3l c m) 0 a1 (A88 a0.1)) (Rn a0.1 a1):=(Ars.init (Ari hv)).fold
   have hlen:=hM.len
   generalize C9 (fun _ c m=>A3l c m) 0 a1 (A88 a0.1)=M at hM hlen
   by_cases q:M.length > 100
   ·rw [Ag (show nI M.length > 100 by simp only [nI]; omega),Ag (show (Rn a0.1 a1).length > 100 by omega)]
    rfl
   ·rw [Bd (show ¬ nI M.length > 100 by simp only [nI]; omega),Bd (show ¬ (Rn a0.1 a1).length > 100 by omega)]
    simp only [cond_false]
    unfold Y4
    refine Bva (m:=M.length + 1) ?_
    refine Btn M (Rn a0.1 a1) hM (by omega) (fun l c r=>(M,l,c,[],r,())) (fun _ _ _=>rfl) (fun l c r e l' hr=>?_) (fun c r h1 h2 h3=>?_) M.length M none [] rfl (List.Perm.refl _)
    ·show S8 M l c [] r e.1 e.2 l'=_
     unfold S8
     rw [Et,Ag (show (r.length + 1) * 32≤140737488355328 by omega)]
     rfl
    ·show (bif G0 r then bif decide (r.length≤1000) then some ((V4 r,0,()),()) else none else none)=_
     rw [h1,Ag h2,h3]
     rfl
def Ak3 {R:Type} (k:Kt R):=(I3 (D6 6) (.exit 0) 2 k)
def Ahy {R:Type} (k:Kt R):=(I3 (D6 11) (.exit 2) 4 k)
def A10 {R:Type} (k:Kt R):=(I3 (D6 21) (.exit 4) 6 k)
def z8 {R:Type}:Lt R D6:=(Ea (pat:=D6) 6 (fun d k=>(A40 d).bind (Ak3 k)) (Ea (pat:=D6) 11 (fun d k=>(A1z d).bind (Ahy k)) (Ea (pat:=D6) 21 (fun d k=>Y4 d.1 d.2.1 d.2.2.1 d.2.2.2.1 d.2.2.2.2.1 (A10 k)) Hn)))
theorem Zl:A2 Tryz.prog Zk where
 sd:=Bg6 (l:=[(118,Ha),(150,I5)]) ⟨Qh,Qi,trivial⟩
 inl:=fun f fn h=>by cases h
 cc:=fun f BT h=>by cases h
 st:=fun f BT e h=>by cases h
 srt:=fun fs fc BT U e h=>by cases h; exact ⟨⟨_,Tryz.func177,by kernel_rfl,by kernel_rfl⟩,Bri⟩
theorem A11 {R:Type}:A4 Tryz.prog R 79 0 D6 z8 Ahw:=
 Bs1 (cfg:=⟨Zk,0,79,D6⟩) (key:=21) (it:=.tmp 59) (sl:=60) (ii:=2) (xid:=4) (t:=.str) (by kernel_rfl) (by kernel_rfl) Zl rfl rfl rfl (by kernel_rfl) (by kernel_rfl) (xs:=fun d=>d.1) (left:=fun d=>d.2.1) (cur:=fun d=>d.2.2.1) (fun d=>rfl) (fun d=>rfl)
  (stp:=fun d e l=>S8 d.1 d.2.1 d.2.2.1 d.2.2.2.1 d.2.2.2.2.1 e.1 e.2 l) (fin:=fun d=>Ahx d.1 d.2.1 d.2.2.1 d.2.2.2.1 d.2.2.2.2.1) (fun d e l=>by obtain ⟨i2,l2,c2,r3,r4,⟨⟩⟩:=d; obtain ⟨e0,e1⟩:=e; kernel_rfl) (fun d=>by obtain ⟨i2,l2,c2,r3,r4,⟨⟩⟩:=d; kernel_rfl) (fun d k=>rfl)
theorem A12 {R:Type}:A4 Tryz.prog R 79 0 D6 z8 Ahv:=
 B8 (cfg:=⟨Zk,0,79,D6⟩) 11 [] (fun NX X d=>(u4 (Ac Ae)) (Pl  NX X) d) (fun m d=>(u4 (Ac Ae)) (Ez m) d) (fun d=>(u4 (Ac Ae)) Lr d) Ahy Zl trivial (fun f NX d=>by simp only [u4,Ac,Ae]; unfold Pl; simp only [nb])
theorem A41 {R:Type}:A4 Tryz.prog R 79 0 D6 z8 Ak2:=
 B8 (cfg:=⟨Zk,0,79,D6⟩) 6 [] (fun NX X d=>(u4 (Ac (Ac Ae))) (Q0  NX X) d) (fun m d=>(u4 (Ac (Ac Ae))) (Fr m) d) (fun d=>(u4 (Ac (Ac Ae))) Nc d) Ak3 Zl trivial (fun f NX d=>by simp only [u4,Ac,Ae]; unfold Q0; simp only [nb])
theorem As9:Bs Tryz.prog 101 Afz:=
 A3 (pat:=D6) [Ak2,Ahv,Ahw] z8 Zl ⟨A41,A12,A11,trivial⟩ Tryz.func101 (de:=fun x=>Af0 x.1 x.2.1) (fun x r h=>(Bda x.1 x.2.1).trans h) fun _=>by kernel_rfl
def Vc (e:Aa) (life first w:Int):Option (List Aa):=if e.size≤1048576 then some (c7 e life first w) else none
def Rc (v0:Aa) (v1 v2 v3 v9 v11:Int) (r0:List Aa):Nat:=(v9 - v11).toNat + 1
def Blh:Gc:=⟨[.rd .str,.rd tI,.rd tI,.rd tI],[none,none,none,none],[.own 9 .str],[none]⟩
def Aow:SD:=⟨Blh,fun x=>(Vc x.1 x.2.1 x.2.2.1 x.2.2.2.1).bind fun r=>some ((r,()),(()))⟩
def A37:Tb:=tb [(95,Dm),(103,Lh),(147,Wf),(180,Aft)]
def Vv:Nat→C2×(Nat→C2):=F0 [(7,⟨[.row 10 0 9 .str],[(0,.lf (.d .str)),(1,.lf (.d tI)),(2,.lf (.d tI)),(3,.lf (.d tI)),(9,.lf (.d tI)),(10,.lf (.row 0)),(11,.lf (.d tI))],[.row 9 .str]⟩,[(2,⟨[.row 10 0 9 .str],[(10,.lf (.row 0))],[.row 9 .str]⟩)])]
def Ata:Code:=(At (Bb Tryz.f119)).getD 0 .skip
def T6 {R:Type}  (NX:((Aa)×(Int)×(Int)×(Int)×(Int)×(Int)×(List Aa)×Unit)→Option R) (X2:((List Aa)×Unit)→Option R) (v0:Aa) (v1:Int) (v2:Int) (v3:Int) (v9:Int) (v11:Int) (r0:List Aa):Option R:=
 bif decide (v11 < v9) then bif v11==IntKind.i64.wrap (v9 - 1) then bif decide ((r0.length + [Dt (2,v1,IntKind.i64.wrap (v2 + v11),v0,()) v3].length) * 16≤140737488355328) then NX (v0,v1,v2,v3,v9,IntKind.i64.wrap (v11 + 1),r0++[Dt (2,v1,IntKind.i64.wrap (v2 + v11),v0,()) v3],()) else none else bif decide (0≤IntKind.i64.wrap (IntKind.i64.wrap (64 - v3) - 8)) then bif decide (IntKind.i64.wrap (IntKind.i64.wrap (64 - v3) - 8)≤nI v0.size) then bif decide (0≤IntKind.i64.wrap (IntKind.i64.wrap (64 - v3) - 8)) then bif decide (IntKind.i64.wrap (IntKind.i64.wrap (64 - v3) - 8)≤nI v0.size) then bif decide ((r0.length + [Dt (1,v1,IntKind.i64.wrap (v2 + v11),Ah v0 0 (IntKind.i64.wrap (IntKind.i64.wrap (64 - v3) - 8)),()) v3].length) * 16≤140737488355328) then NX (Ah v0 (IntKind.i64.wrap (IntKind.i64.wrap (64 - v3) - 8)) (nI v0.size),v1,v2,v3,v9,IntKind.i64.wrap (v11 + 1),r0++[Dt (1,v1,IntKind.i64.wrap (v2 + v11),Ah v0 0 (IntKind.i64.wrap (IntKind.i64.wrap (64 - v3) - 8)),()) v3],()) else none else none else none else none else none else X2 (r0,())
def Jj:Nat→(Aa)→(Int)→(Int)→(Int)→(Int)→(Int)→(List Aa) →  Option ((List Aa)×Unit)
 | 0,_,_,_,_,_,_,_=>none
 | m + 1,v0,v1,v2,v3,v9,v11,r0=>T6  (fun d=>Jj m d.1 d.2.1 d.2.2.1 d.2.2.2.1 d.2.2.2.2.1 d.2.2.2.2.2.1 d.2.2.2.2.2.2.1) (fun d=>some (d)) v0 v1 v2 v3 v9 v11 r0
def Bdb (d:(Aa)×(Int)×(Int)×(Int)×(Int)×(Int)×(List Aa)×Unit):Option ((List Aa)×Unit):=(u4 (Ac (Ac (Ac Ae)))) (Jj ((u4 (Ac (Ac (Ac Ae)))) Rc d)) d
def Aox (a0:Aa) (a1 a2 a3:Int):Option ((((List Aa)×Unit)×(Unit))):=
 ((Qj a0 a3).bind fun val=>some ((val,()),())).bind fun val=>bif val.1.1==0 then some (([],()),()) else bif !Ba a1 1 60000 then some (([],()),()) else bif decide (a2 < 1) then some (([],()),()) else bif decide (a2 > IntKind.i64.wrap (IntKind.i64.wrap (1000000000 - val.1.1) + 1)) then some (([],()),()) else ((fun d=>Jj (Rc d.1 d.2.1 d.2.2.1 d.2.2.2.1 d.2.2.2.2.1 d.2.2.2.2.2.1 d.2.2.2.2.2.2.1) d.1 d.2.1 d.2.2.1 d.2.2.2.1 d.2.2.2.2.1 d.2.2.2.2.2.1 d.2.2.2.2.2.2.1) (a0,a1,a2,a3,val.1.1,0,[],())).bind fun val=>some (val,())
theorem Bt5 (life first w:Int) (n N:Nat) (hn:56 - w=(n:Int)) (hw1:1≤w) (hw8:w≤8) (hf1:1≤first) (hf2:first≤1000000000) (hN:N≤2000000):∀ (f m i:Nat) (s:Aa) (r:List Aa),s.size≤f→i + (Fa n f s).length=N→(Fa n f s).length < m→r.length=i→
  Jj m s life first w N i r=some (r++J6 life w (first + (i:Int)) (Fa n f s),()):=by
 have one:∀ (m i:Nat) (s:Aa) (r:List Aa),i + 1=N→1 < m→r.length=i→Jj m s life first w N i r=some (r++J6 life w (first + (i:Int)) [s],()):=by
  intro m i s r hi hm hr
  obtain ⟨m,rfl⟩:∃ k,m=k + 2:=⟨m - 2,by omega⟩
  simp only [Jj,T6]
  rw [Ag (show (i:Int) < (N:Int) by omega),Aj (n:=(N:Int) - 1) (by omega) (by omega),show (N:Int) - 1=(i:Int) by omega,beq_self_eq_true,Aj (n:=first + (i:Int)) (by omega) (by omega),Aj (n:=(i:Int) + 1) (by omega) (by omega),Et,Ag (show (r.length + 1) * 16≤140737488355328 by omega),Bd (show ¬ ((i:Int) + 1 < (N:Int)) by omega)]
  rfl
 intro f
 induction f with
 | zero=>
  intro m i s r hs hi hm hr
  exact one m i s r hi hm hr
 | succ f ih=>
  intro m i s r hs hi hm hr
  by_cases q:s.size > n
  ·simp only [Fa,if_pos q,List.length_cons] at hi hm ⊢
   have hc:(Ah s n (nI s.size)).size=s.size - n:=by rw [C6 (by omega) (by simp only [nI]; omega) (by simp [nI])]; simp only [nI]; omega
   obtain ⟨m,rfl⟩:∃ k,m=k + 1:=⟨m - 1,by omega⟩
   have hL:1≤(Fa n f (Ah s n (nI s.size))).length:=by
    cases f with
    | zero=>simp [Fa]
    | succ f=>unfold Fa; split<;>simp
   have ih:=ih m (i + 1) (Ah s n (nI s.size)) (r++[Cc (1,life,first + (i:Int),Ah s 0 n,()) w]) (by omega) (by omega) (by omega) (by rw [Ef,Et,hr])
   simp only [Jj,T6]
   rw [Ag (show (i:Int) < (N:Int) by omega),Aj (n:=(N:Int) - 1) (by omega) (by omega),beq_eq_false_iff_ne.2 (show (i:Int)≠(N:Int) - 1 by omega),Aj (n:=first + (i:Int)) (by omega) (by omega),wI (show i < 4611686018427387904 by omega),Aj (n:=64 - w) (by omega) (by omega),Aj (n:=64 - w - 8) (by omega) (by omega),show 64 - w - 8=(n:Int) by omega,Ag (show (0:Int)≤(n:Int) by omega),Ag (show (n:Int)≤nI s.size by simp only [nI]; omega),Et,Et,Ag (show (r.length + 1) * 16≤140737488355328 by omega)]
   refine Eq.trans ih ?_
   rw [List.append_assoc,show first + ((i + 1:Nat):Int)=first + (i:Int) + 1 by omega]
   generalize Fa n f (Ah s n (nI s.size))=L at *
   cases L with
   | nil=>simp at hL
   | cons a b=>rfl
  ·simp only [Fa,if_neg q,Et] at hi hm ⊢
   exact one m i s r hi hm hr
theorem Bli (a0:Aa) (a1 a2 a3:Int) r (h:Vc a0 a1 a2 a3=some r):Aox a0 a1 a2 a3=some ((r,()),(())):=by
 unfold Vc at h
 split at h
 rotate_left
 ·cases h
 rename_i hc
 cases h
 have n1:Qj a0 a3=some (Ge a0.size a3):=if_pos (by omega)
 unfold Aox c7
 refine bi_ (bi_ n1 rfl) ?_
 show (bif Ge a0.size a3==0 then _ else (bif !Bw a1 1 60000 then _ else _))=_
 cases hw:Bw a3 1 8 with
 | false=>
  have:Ge a0.size a3=0:=by unfold Ge; rw [hw]; rfl
  rw [this]
  rfl
 | true=>
  obtain ⟨k1,k2⟩:=Cv hw
  have hp:=Aay (s:=a0) hw
  have hP:Ge a0.size a3=((Ao a0 a3).length:Int):=by unfold Ge; rw [hw]; exact hp.symm
  have hlen:(Ao a0 a3).length≤a0.size + 1:=Anl _ _ _
  have h1:1≤(Ao a0 a3).length:=by
   have:(1:Int)≤((Ao a0 a3).length:Int):=by rw [hp]; split<;>omega
   omega
  rw [hP,beq_eq_false_iff_ne.2 (show ((Ao a0 a3).length:Int)≠0 by omega)]
  cases hl:Bw a1 1 60000 with
  | false=>rfl
  | true=>
   show (bif decide (a2 < 1) then _ else (bif decide (a2 > IntKind.i64.wrap (IntKind.i64.wrap (1000000000 - ((Ao a0 a3).length:Int)) + 1)) then _ else (Option.bind (Jj (Rc a0 a1 a2 a3 ((Ao a0 a3).length:Int) 0 []) a0 a1 a2 a3 ((Ao a0 a3).length:Int) 0 []) _)))=_
   rw [Aj (n:=1000000000 - ((Ao a0 a3).length:Int)) (by omega) (by omega),Aj (n:=1000000000 - ((Ao a0 a3).length:Int) + 1) (by omega) (by omega)]
   by_cases q1:a2 < 1
   ·rw [Ag q1,Bd (show ¬ 1≤a2 by omega)]; rfl
   ·rw [Bd q1,Ag (show 1≤a2 by omega)]
    by_cases q2:a2 > 1000000000 - ((Ao a0 a3).length:Int) + 1
    ·rw [Ag q2,Bd (show ¬ a2≤1000000000 - ((Ao a0 a3).length:Int) + 1 by omega)]; rfl
    ·rw [Bd q2,Ag (show a2≤1000000000 - ((Ao a0 a3).length:Int) + 1 by omega)]
     obtain ⟨n,hn⟩:∃ n:Nat,56 - a3=(n:Int):=⟨(56 - a3).toNat,by omega⟩
     have hS:Ao a0 a3=Fa n a0.size a0:=by unfold Ao; rw [hn,En]
     have hL:=Bt5 a1 a2 a3 n (Ao a0 a3).length hn k1 k2 (by omega) (by omega) (by omega) a0.size (Rc a0 a1 a2 a3 ((Ao a0 a3).length:Int) 0 []) 0 a0 [] (Nat.le_refl _) (by rw [← hS]; omega) (by rw [← hS]; simp only [Rc]; omega) rfl
     rw [← hS,List.nil_append,show a2 + ((0:Nat):Int)=a2 by omega] at hL
     exact bi_ hL rfl
def Atb {R:Type} (k:Kt R):=(I3 (Vv 7) (.exit 0) 2 k)
def Ban {R:Type}:Lt R Vv:=(Ea (pat:=Vv) 7 (fun d k=>(Bdb d).bind (Atb k)) Hn)
theorem A38:A2 Tryz.prog A37:=A5 ⟨D2,O7,y9,As0,trivial⟩
theorem Bdc {R:Type}:A4 Tryz.prog R 67 0 Vv Ban Ata:=
 B8 (cfg:=⟨A37,0,67,Vv⟩) 7 [] (fun NX X d=>(u4 (Ac (Ac (Ac Ae)))) (T6  NX X) d) (fun m d=>(u4 (Ac (Ac (Ac Ae)))) (Jj m) d) (fun d=>(u4 (Ac (Ac (Ac Ae)))) Rc d) Atb A38 trivial (fun f NX d=>by simp only [u4,Ac,Ae]; unfold T6; simp only [nb])
theorem A39:Bs Tryz.prog 119 Aow:=
 A3 (pat:=Vv) [Ata] Ban A38 ⟨Bdc,trivial⟩ Tryz.func119 (de:=fun x=>Aox x.1 x.2.1 x.2.2.1 x.2.2.2.1) (fun x r h=>F1 (Bli x.1 x.2.1 x.2.2.1 x.2.2.2.1) h) fun _=>by kernel_rfl
def Bt (s:B5):Option B5:=if s.1.length≤1000000 then some (s.1,()) else none
def Ayn:Gc:=⟨[.rd C8],[some 1],[.own 157 Ax],[some 1]⟩
def Nw:SD:=⟨Ayn,fun x=>(Bt x.1).bind fun r=>some ((r.1,()),(()))⟩
def W6 (a0:B5):Option ((B5×(Unit))):=
 bif decide ((0 + List.length a0.1) * 32≤140737488355328) then some (([]++a0.1,()),()) else none
theorem Ayo (a0:B5) r (h:Bt a0=some r):W6 a0=some ((r.1,()),(())):=by
 unfold Bt at h
 split at h
 ·rename_i hc
  cases h
  unfold W6
  rw [Ag (show (0 + a0.1.length) * 32≤140737488355328 by omega)]
  rfl
 ·cases h
theorem Rs:Bs Tryz.prog 121 Nw:=
 A3 (pat:=Dp) [] Hn (A5 (l:=[]) trivial) trivial Tryz.func121 (de:=fun x=>W6 x.1) (fun x r h=>F1 (Ayo x.1) h) fun _=>by kernel_rfl
def Nd (r:Rt) (w:Int):Aa:=Cb r w
def A13:Gc:=⟨[.rd yRt,.rd tI],[some 4,none],[.rd .str],[none]⟩
def Ahz:SD:=⟨A13,fun x=>some (((Nd x.1 x.2.1),()),(()))⟩
def Y5 (a0:Rt) (a1:Int):Option ((((Aa)×Unit)×(Unit))):=
 bif !I6 a0 then some ((Ad,()),()) else some ((Dt (4,a0.2.2.2.1,a0.1,Dj a0.2.1 (Int.toNat 1)++Dj a0.2.2.1 (Int.toNat 4),()) a1,()),())
theorem A14 (a0:Rt) (a1:Int):Y5 a0 a1=some (((Nd a0 a1),()),(())):=by
 unfold Y5 Nd Cb
 show (bif !Jo a0 then _ else _)=_
 cases Jo a0<;>rfl
theorem A15:Bs Tryz.prog 185 Ahz:=
 A3 (pat:=Dp) [] Hn (A5 (l:=[(103,Lh),(175,Rq),(182,Yn)]) ⟨O7,Ws,Ajz,trivial⟩) trivial Tryz.func185 (de:=fun x=>Y5 x.1 x.2.1) (fun x r h=>(A14 x.1 x.2.1).trans h) fun _=>by kernel_rfl
def Sg (s:E5) (life:Int):Option (E5×List Dl×Bool):=if A80 s then some (Aa0 s life) else none
def Bh6:Gc:=⟨[.rd Yf,.rd tI],[some 10,none],[.rd tI,.rd tI,.rd tI,.rd tI,.rd tI,.rd tI,.rd tI,.rd tI,.rd tI,.own 157 Ax,.own 142 Fe,.rd .bool],[some 10,none,none]⟩
def Aj8:SD:=⟨Bh6,fun x=>(Sg x.1 x.2.1).bind fun r=>some ((r.1.1,r.1.2.1,r.1.2.2.1,r.1.2.2.2.1.1,r.1.2.2.2.1.2.1,r.1.2.2.2.1.2.2.1,r.1.2.2.2.1.2.2.2.1,r.1.2.2.2.2.1,r.1.2.2.2.2.2.1,r.1.2.2.2.2.2.2.1.1,r.2.1,r.2.2,()),(()))⟩
def Aj9:Tb:=tb [(96,O9),(99,Zj),(103,Lh),(119,Aow),(120,Rp),(121,Nw),(179,Yt),(185,Ahz)]
def Jk:Nat→C2×(Nat→C2):=F0 [(8,⟨[.row 9 0 9 .str,.sl 52 0 (.sl Do),.boxSl 2 9 Ax,.boxRow 4 9 157 Ax],[(1,.lf (.d tI)),(2,.lf (.ptr 0 0)),(4,.lf (.ptr 1 0)),(8,.lf (.ptr 2 0)),(9,.lf (.row 3)),(52,.lf (.d (.sl (.sl Do)))),(53,.lf (.d tI)),(54,.lf (.d tI))],[.box 33 [.d Yf],.box 33 [.d tI,.d tI,.d tI,.d tI,.d tI,.d tI,.d tI,.d tI,.d tI,.row 4],.box 28 [.d yRt],.row 9 .str,.row 157 Ax]⟩,[(2,⟨[.row 9 0 9 .str,.boxSl 2 9 Ax,.boxRow 4 9 157 Ax],[(1,.lf (.d tI)),(2,.lf (.ptr 0 0)),(4,.lf (.ptr 1 0)),(8,.lf (.ptr 2 0)),(9,.lf (.row 3))],[.box 33 [.d Yf],.box 33 [.d tI,.d tI,.d tI,.d tI,.d tI,.d tI,.d tI,.d tI,.d tI,.row 4],.box 28 [.d yRt],.row 9 .str,.row 157 Ax]⟩)]),(14,⟨[.sl 9 0 .str,.row 12 0 142 Fe,.sl 72 0 .str,.boxSl 2 9 Ax,.boxRow 4 9 157 Ax],[(1,.lf (.d tI)),(2,.lf (.ptr 0 0)),(4,.lf (.ptr 1 0)),(8,.lf (.ptr 2 0)),(9,.lf (.d (.sl .str))),(12,.lf (.row 3)),(72,.lf (.d (.sl .str))),(73,.lf (.d tI)),(74,.lf (.d tI))],[.box 33 [.d Yf],.box 33 [.d tI,.d tI,.d tI,.d tI,.d tI,.d tI,.d tI,.d tI,.d tI,.row 4],.box 28 [.d yRt],.row 142 Fe,.row 157 Ax]⟩,[(4,⟨[.sl 9 0 .str,.row 12 0 142 Fe,.boxSl 2 9 Ax,.boxRow 4 9 157 Ax],[(1,.lf (.d tI)),(2,.lf (.ptr 0 0)),(4,.lf (.ptr 1 0)),(8,.lf (.ptr 2 0)),(9,.lf (.d (.sl .str))),(12,.lf (.row 3))],[.box 33 [.d Yf],.box 33 [.d tI,.d tI,.d tI,.d tI,.d tI,.d tI,.d tI,.d tI,.d tI,.row 4],.box 28 [.d yRt],.row 142 Fe,.row 157 Ax]⟩)])]
def Aoy:Code:=(At (Bb Tryz.f104)).getD 0 .skip
def Ak4:Code:=(At (Bb Tryz.f104)).getD 1 .skip
def Nf (v1:Int) (v9 v72:List Aa) (v73 v74:Int) (b0:E5) (b1_0 b1_1:Int) (b1_2 b1_3:Int) (b1_4 b1_5:Int) (b1_6 b1_7 b1_8:Int) (b2:Rt) (r3:List Dl) (r4:List A1):Nat:=(v73 - v74).toNat + 1
def Q1 {R:Type}  (NX:((Int)×(List Aa)×(List Aa)×(Int)×(Int)×E5×(Int)×(Int)×(Int)×(Int)×(Int)×(Int)×(Int)×(Int)×(Int)×Rt×(List Dl)×(List A1)×Unit)→Option R) (X4:((Int)×(List Aa)×E5×(Int)×(Int)×(Int)×(Int)×(Int)×(Int)×(Int)×(Int)×(Int)×Rt×(List Dl)×(List A1)×Unit)→Option R) (v1:Int) (v9:List Aa) (v72:List Aa) (v73:Int) (v74:Int) (b0:E5) (b1_0:Int) (b1_1:Int) (b1_2:Int) (b1_3:Int) (b1_4:Int) (b1_5:Int) (b1_6:Int) (b1_7:Int) (b1_8:Int) (b2:Rt) (r3:List Dl) (r4:List A1):Option R:=
 bif decide (v74 < v73) then bif decide (0≤v74) then bif decide (v74 < nI v72.length) then bif decide ((r3.length + [(false,IntKind.i64.wrap (Df b2.2.1 b0.2.1 + v74),v72.getD v74.toNat (Ad),())].length) * 32≤140737488355328) then NX (v1,v9,v72,v73,IntKind.i64.wrap (v74 + 1),b0,b1_0,b1_1,b1_2,b1_3,b1_4,b1_5,b1_6,b1_7,b1_8,b2,r3++[(false,IntKind.i64.wrap (Df b2.2.1 b0.2.1 + v74),v72.getD v74.toNat (Ad),())],r4,()) else none else none else none else X4 (v1,v9,b0,b1_0,b1_1,b1_2,b1_3,b1_4,b1_5,b1_6,b1_7,b1_8,b2,r3,r4,())
def Fs:Nat→(Int)→(List Aa)→(List Aa)→(Int)→(Int)→E5→(Int)→(Int)→(Int)→(Int)→(Int)→(Int)→(Int)→(Int)→(Int)→Rt→(List Dl)→(List A1) →  Option ((Int)×(List Aa)×E5×(Int)×(Int)×(Int)×(Int)×(Int)×(Int)×(Int)×(Int)×(Int)×Rt×(List Dl)×(List A1)×Unit)
 | 0,_,_,_,_,_,_,_,_,_,_,_,_,_,_,_,_,_,_=>none
 | m + 1,v1,v9,v72,v73,v74,b0,b1_0,b1_1,b1_2,b1_3,b1_4,b1_5,b1_6,b1_7,b1_8,b2,r3,r4=>Q1  (fun d=>Fs m d.1 d.2.1 d.2.2.1 d.2.2.2.1 d.2.2.2.2.1 d.2.2.2.2.2.1 d.2.2.2.2.2.2.1 d.2.2.2.2.2.2.2.1 d.2.2.2.2.2.2.2.2.1 d.2.2.2.2.2.2.2.2.2.1 d.2.2.2.2.2.2.2.2.2.2.1 d.2.2.2.2.2.2.2.2.2.2.2.1 d.2.2.2.2.2.2.2.2.2.2.2.2.1 d.2.2.2.2.2.2.2.2.2.2.2.2.2.1 d.2.2.2.2.2.2.2.2.2.2.2.2.2.2.1 d.2.2.2.2.2.2.2.2.2.2.2.2.2.2.2.1 d.2.2.2.2.2.2.2.2.2.2.2.2.2.2.2.2.1 d.2.2.2.2.2.2.2.2.2.2.2.2.2.2.2.2.2.1) (fun d=>some (d)) v1 v9 v72 v73 v74 b0 b1_0 b1_1 b1_2 b1_3 b1_4 b1_5 b1_6 b1_7 b1_8 b2 r3 r4
def A42 (d:(Int)×(List Aa)×(List Aa)×(Int)×(Int)×E5×(Int)×(Int)×(Int)×(Int)×(Int)×(Int)×(Int)×(Int)×(Int)×Rt×(List Dl)×(List A1)×Unit):Option ((Int)×(List Aa)×E5×(Int)×(Int)×(Int)×(Int)×(Int)×(Int)×(Int)×(Int)×(Int)×Rt×(List Dl)×(List A1)×Unit):=(u4 (u4 (u4 (u4 (Ac (Ac Ae)))))) (Fs ((u4 (u4 (u4 (u4 (Ac (Ac Ae)))))) Nf d)) d
def Pm (v1:Int) (v52:List (List Be)) (v53 v54:Int) (b0:E5) (b1_0 b1_1:Int) (b1_2 b1_3:Int) (b1_4 b1_5:Int) (b1_6 b1_7 b1_8:Int) (b2:Rt) (r3:List Aa) (r4:List A1):Nat:=(v53 - v54).toNat + 1
def Sh {R:Type}  (NX:((Int)×(List (List Be))×(Int)×(Int)×E5×(Int)×(Int)×(Int)×(Int)×(Int)×(Int)×(Int)×(Int)×(Int)×Rt×(List Aa)×(List A1)×Unit)→Option R) (X2:((Int)×E5×(Int)×(Int)×(Int)×(Int)×(Int)×(Int)×(Int)×(Int)×(Int)×Rt×(List Aa)×(List A1)×Unit)→Option R) (v1:Int) (v52:List (List Be)) (v53:Int) (v54:Int) (b0:E5) (b1_0:Int) (b1_1:Int) (b1_2:Int) (b1_3:Int) (b1_4:Int) (b1_5:Int) (b1_6:Int) (b1_7:Int) (b1_8:Int) (b2:Rt) (r3:List Aa) (r4:List A1):Option R:=
 bif decide (v54 < v53) then bif decide (0≤v54) then bif decide (v54 < nI v52.length) then ((Vc (F5 (v52.getD v54.toNat [])) v1 (IntKind.i64.wrap (b2.2.2.1 + nI r3.length)) b0.1).bind fun val=>some ((val,()),())).bind fun val=>bif decide ((r3.length + List.length val.1.1) * 16≤140737488355328) then NX (v1,v52,v53,IntKind.i64.wrap (v54 + 1),b0,b1_0,b1_1,b1_2,b1_3,b1_4,b1_5,b1_6,b1_7,b1_8,b2,r3++val.1.1,r4,()) else none else none else none else X2 (v1,b0,b1_0,b1_1,b1_2,b1_3,b1_4,b1_5,b1_6,b1_7,b1_8,b2,r3,r4,())
def G3:Nat→(Int)→(List (List Be))→(Int)→(Int)→E5→(Int)→(Int)→(Int)→(Int)→(Int)→(Int)→(Int)→(Int)→(Int)→Rt→(List Aa)→(List A1) →  Option ((Int)×E5×(Int)×(Int)×(Int)×(Int)×(Int)×(Int)×(Int)×(Int)×(Int)×Rt×(List Aa)×(List A1)×Unit)
 | 0,_,_,_,_,_,_,_,_,_,_,_,_,_,_,_,_,_=>none
 | m + 1,v1,v52,v53,v54,b0,b1_0,b1_1,b1_2,b1_3,b1_4,b1_5,b1_6,b1_7,b1_8,b2,r3,r4=>Sh  (fun d=>G3 m d.1 d.2.1 d.2.2.1 d.2.2.2.1 d.2.2.2.2.1 d.2.2.2.2.2.1 d.2.2.2.2.2.2.1 d.2.2.2.2.2.2.2.1 d.2.2.2.2.2.2.2.2.1 d.2.2.2.2.2.2.2.2.2.1 d.2.2.2.2.2.2.2.2.2.2.1 d.2.2.2.2.2.2.2.2.2.2.2.1 d.2.2.2.2.2.2.2.2.2.2.2.2.1 d.2.2.2.2.2.2.2.2.2.2.2.2.2.1 d.2.2.2.2.2.2.2.2.2.2.2.2.2.2.1 d.2.2.2.2.2.2.2.2.2.2.2.2.2.2.2.1 d.2.2.2.2.2.2.2.2.2.2.2.2.2.2.2.2.1) (fun d=>some (d)) v1 v52 v53 v54 b0 b1_0 b1_1 b1_2 b1_3 b1_4 b1_5 b1_6 b1_7 b1_8 b2 r3 r4
def Bao (d:(Int)×(List (List Be))×(Int)×(Int)×E5×(Int)×(Int)×(Int)×(Int)×(Int)×(Int)×(Int)×(Int)×(Int)×Rt×(List Aa)×(List A1)×Unit):Option ((Int)×E5×(Int)×(Int)×(Int)×(Int)×(Int)×(Int)×(Int)×(Int)×(Int)×Rt×(List Aa)×(List A1)×Unit):=(u4 (u4 (u4 (u4 (Ac Ae))))) (G3 ((u4 (u4 (u4 (u4 (Ac Ae))))) Pm d)) d
def Aka (a0:E5) (a1:Int):Option ((((Int)×(Int)×(Int)×(Int)×(Int)×(Int)×(Int)×(Int)×(Int)×(List A1)×(List Dl)×(Bool)×Unit)×(Unit))):=
 bif decide (IntKind.i64.wrap (a0.2.2.2.1.1 + 1) > 1000000000) then some ((0,0,0,0,0,0,0,0,0,[],[],false,()),()) else bif decide (IntKind.i64.wrap (a0.2.2.2.1.2.2.1 + Bv a0.2.1) > 999999000) then some ((0,0,0,0,0,0,0,0,0,[],[],false,()),()) else ((fun d=>G3 (Pm d.1 d.2.1 d.2.2.1 d.2.2.2.1 d.2.2.2.2.1 d.2.2.2.2.2.1 d.2.2.2.2.2.2.1 d.2.2.2.2.2.2.2.1 d.2.2.2.2.2.2.2.2.1 d.2.2.2.2.2.2.2.2.2.1 d.2.2.2.2.2.2.2.2.2.2.1 d.2.2.2.2.2.2.2.2.2.2.2.1 d.2.2.2.2.2.2.2.2.2.2.2.2.1 d.2.2.2.2.2.2.2.2.2.2.2.2.2.1 d.2.2.2.2.2.2.2.2.2.2.2.2.2.2.1 d.2.2.2.2.2.2.2.2.2.2.2.2.2.2.2.1 d.2.2.2.2.2.2.2.2.2.2.2.2.2.2.2.2.1) d.1 d.2.1 d.2.2.1 d.2.2.2.1 d.2.2.2.2.1 d.2.2.2.2.2.1 d.2.2.2.2.2.2.1 d.2.2.2.2.2.2.2.1 d.2.2.2.2.2.2.2.2.1 d.2.2.2.2.2.2.2.2.2.1 d.2.2.2.2.2.2.2.2.2.2.1 d.2.2.2.2.2.2.2.2.2.2.2.1 d.2.2.2.2.2.2.2.2.2.2.2.2.1 d.2.2.2.2.2.2.2.2.2.2.2.2.2.1 d.2.2.2.2.2.2.2.2.2.2.2.2.2.2.1 d.2.2.2.2.2.2.2.2.2.2.2.2.2.2.2.1 d.2.2.2.2.2.2.2.2.2.2.2.2.2.2.2.2.1) (a1,Ir a0.2.2.2.2.2.2.1,nI (Ir a0.2.2.2.2.2.2.1).length,0,a0,0,0,0,0,0,0,0,0,0,(IntKind.i64.wrap (a0.2.2.2.1.1 + 1),IntKind.i64.wrap (1 - a0.2.2.2.1.2.1),IntKind.i64.wrap (a0.2.2.2.1.2.2.1 + Bv a0.2.1),a1,()),[Dt (3,a1,IntKind.i64.wrap (a0.2.2.2.1.2.2.1 + Bv a0.2.1),Ad,()) a0.1],[],())).bind fun val=>((fun d=>Fs (Nf d.1 d.2.1 d.2.2.1 d.2.2.2.1 d.2.2.2.2.1 d.2.2.2.2.2.1 d.2.2.2.2.2.2.1 d.2.2.2.2.2.2.2.1 d.2.2.2.2.2.2.2.2.1 d.2.2.2.2.2.2.2.2.2.1 d.2.2.2.2.2.2.2.2.2.2.1 d.2.2.2.2.2.2.2.2.2.2.2.1 d.2.2.2.2.2.2.2.2.2.2.2.2.1 d.2.2.2.2.2.2.2.2.2.2.2.2.2.1 d.2.2.2.2.2.2.2.2.2.2.2.2.2.2.1 d.2.2.2.2.2.2.2.2.2.2.2.2.2.2.2.1 d.2.2.2.2.2.2.2.2.2.2.2.2.2.2.2.2.1 d.2.2.2.2.2.2.2.2.2.2.2.2.2.2.2.2.2.1) d.1 d.2.1 d.2.2.1 d.2.2.2.1 d.2.2.2.2.1 d.2.2.2.2.2.1 d.2.2.2.2.2.2.1 d.2.2.2.2.2.2.2.1 d.2.2.2.2.2.2.2.2.1 d.2.2.2.2.2.2.2.2.2.1 d.2.2.2.2.2.2.2.2.2.2.1 d.2.2.2.2.2.2.2.2.2.2.2.1 d.2.2.2.2.2.2.2.2.2.2.2.2.1 d.2.2.2.2.2.2.2.2.2.2.2.2.2.1 d.2.2.2.2.2.2.2.2.2.2.2.2.2.2.1 d.2.2.2.2.2.2.2.2.2.2.2.2.2.2.2.1 d.2.2.2.2.2.2.2.2.2.2.2.2.2.2.2.2.1 d.2.2.2.2.2.2.2.2.2.2.2.2.2.2.2.2.2.1) (val.1,val.2.2.2.2.2.2.2.2.2.2.2.2.1,val.2.2.2.2.2.2.2.2.2.2.2.2.1,nI val.2.2.2.2.2.2.2.2.2.2.2.2.1.length,0,val.2.1,val.2.2.1,val.2.2.2.1,val.2.2.2.2.1,val.2.2.2.2.2.1,val.2.2.2.2.2.2.1,val.2.2.2.2.2.2.2.1,val.2.2.2.2.2.2.2.2.1,val.2.2.2.2.2.2.2.2.2.1,val.2.2.2.2.2.2.2.2.2.2.1,val.2.2.2.2.2.2.2.2.2.2.2.1,[],val.2.2.2.2.2.2.2.2.2.2.2.2.2)).bind fun val=>bif decide ((val.2.2.2.2.2.2.2.2.2.2.2.2.2.1.length + [(true,0,Ad,()),(false,Int.tmod val.2.2.2.2.2.2.2.2.2.2.2.2.1.1 2,Nd val.2.2.2.2.2.2.2.2.2.2.2.2.1 val.2.2.1.1,()),(true,0,Ad,())].length) * 32≤140737488355328) then ((Bt val.2.2.1.2.2.2.2.2.2.1).bind fun val=>some (val,())).bind fun val_1=>some ((val.2.2.1.1,val.2.2.1.2.1,val.1,val.2.2.2.2.2.2.2.2.2.2.2.2.1.1,val.2.2.2.2.2.2.2.2.2.2.2.2.1.2.1,val.2.2.2.2.2.2.2.2.2.2.2.2.1.2.2.1,val.2.2.2.2.2.2.2.2.2.2.2.2.1.2.2.2.1,nI (List.length val.2.1),0,val_1.1.1,val.2.2.2.2.2.2.2.2.2.2.2.2.2.1++[(true,0,Ad,()),(false,Int.tmod val.2.2.2.2.2.2.2.2.2.2.2.2.1.1 2,Nd val.2.2.2.2.2.2.2.2.2.2.2.2.1 val.2.2.1.1,()),(true,0,Ad,())],true,()),()) else none
theorem Bnx (v1:Int) (s:E5) (R:Rt) (S:List (List Be)) (L:List Aa) (hS:S.length≤101) (hF:0≤R.2.2.1∧R.2.2.1≤1000000099) (hL:L.length≤1):
  G3 (Pm v1 S (nI S.length) 0 s 0 0 0 0 0 0 0 0 0 R L []) v1 S (nI S.length) 0 s 0 0 0 0 0 0 0 0 0 R L []=
  some (v1,s,0,0,0,0,0,0,0,0,0,R,C9 (fun _ b L=>Uu s.1 v1 R.2.2.1 b L) 0 S L,[],()):=by
 have hL:=E4 (xs:=S) [] MvI (fun _ b L=>Uu s.1 v1 R.2.2.1 b L) (g:=fun m i L=>G3 m v1 S (nI S.length) i s 0 0 0 0 0 0 0 0 0 R L []) (ok:=fun L=>(v1,s,0,0,0,0,0,0,0,0,0,R,L,[],())) (fun m i L hi hI=>by
   show G3 (m + 1) v1 S (nI S.length) i s 0 0 0 0 0 0 0 0 0 R L []=_
   simp only [G3,Sh]
   obtain ⟨h1,h2⟩:=hI
   rw [Xv hi,G9,wI (show i < 4611686018427387904 by omega),En]
   have e0:IntKind.i64.wrap (R.2.2.1 + nI L.length)=R.2.2.1 + (L.length:Int):=by simp only [nI]; exact Aj (by omega) (by omega)
   have e1:Vc (F5 (List.getD S i [])) v1 (R.2.2.1 + (L.length:Int)) s.1=some (c7 (Bh (List.getD S i [])) v1 (R.2.2.1 + (L.length:Int)) s.1):=if_pos (Nat.le_trans (L5 _) (by decide))
   rw [e0,e1]
   simp only [cond_true,Option.bind_some]
   have e2:=Arf (List.getD S i []) v1 (R.2.2.1 + (L.length:Int)) s.1
   rw [Ag (show (L.length + (c7 (Bh (List.getD S i [])) v1 (R.2.2.1 + (L.length:Int)) s.1).length) * 16≤140737488355328 by omega)]
   rfl) (fun i L hi hI=>hI.step (by omega) _ _ _ _) (fun m L hI=>by
   show G3 (m + 1) v1 S (nI S.length) (S.length:Int) s 0 0 0 0 0 0 0 0 0 R L []=_
   simp only [G3,Sh]
   rw [Od]
   rfl) (Pm v1 S (nI S.length) 0 s 0 0 0 0 0 0 0 0 0 R L []) 0 L (by omega) (by simp [Pm,nI]) ⟨by omega,by omega⟩
 exact hL
theorem Blj (v1:Int) (s:E5) (R:Rt) (L:List Aa) (hL:L.length≤500000) (hH:0≤R.2.1∧R.2.1≤1):
  Fs (Nf v1 L L (nI L.length) 0 s 0 0 0 0 0 0 0 0 0 R [] []) v1 L L (nI L.length) 0 s 0 0 0 0 0 0 0 0 0 R [] []=
  some (v1,L,s,0,0,0,0,0,0,0,0,0,R,C7 (Bn R.2.1 s.2.1) L,[],()):=by
 have hh:=Ra s.2.1
 have hm:0≤R.2.1 * Al s.2.1∧R.2.1 * Al s.2.1≤99:=by
  have:R.2.1=0∨R.2.1=1:=by omega
  rcases this with e | e<;>rw [e]<;>omega
 have e0:Df R.2.1 s.2.1=Bn R.2.1 s.2.1:=by
  show IntKind.i64.wrap (2 + IntKind.i64.wrap (R.2.1 * Al s.2.1))=2 + R.2.1 * Al s.2.1
  rw [Aj (n:=R.2.1 * Al s.2.1) (by omega) (by omega),Aj (by omega) (by omega)]
 have hB:0≤Bn R.2.1 s.2.1∧Bn R.2.1 s.2.1≤101:=by unfold Bn; omega
 have hL:=E4 (xs:=L) z0 (fun i (r:List Dl)=>i≤500000∧r.length=i) (fun (i:Nat) x r=>r++[L6 (Bn R.2.1 s.2.1 + (i:Int)) x]) (g:=fun m i r=>Fs m v1 L L (nI L.length) i s 0 0 0 0 0 0 0 0 0 R r []) (ok:=fun r=>(v1,L,s,0,0,0,0,0,0,0,0,0,R,r,[],())) (fun m i r hi hI=>by
   show Fs (m + 1) v1 L L (nI L.length) i s 0 0 0 0 0 0 0 0 0 R r []=_
   simp only [Fs,Q1]
   obtain ⟨h1,h2⟩:=hI
   rw [Xv hi,G9,wI (show i < 4611686018427387904 by omega),En,e0,Aj (n:=Bn R.2.1 s.2.1 + (i:Int)) (by omega) (by omega),Et,Ag (show (r.length + 1) * 32≤140737488355328 by omega)]
   rfl) (fun i r hi hI=>⟨by omega,by rw [Ef,Et,hI.2]⟩) (fun m r hI=>by
   show Fs (m + 1) v1 L L (nI L.length) (L.length:Int) s 0 0 0 0 0 0 0 0 0 R r []=_
   simp only [Fs,Q1]
   rw [Od]
   rfl) (Nf v1 L L (nI L.length) 0 s 0 0 0 0 0 0 0 0 0 R [] []) 0 [] (by omega) (by simp [Nf,nI]) ⟨by omega,rfl⟩
 rw [Are,List.drop_zero,List.nil_append,show Bn R.2.1 s.2.1 + ((0:Nat):Int)=Bn R.2.1 s.2.1 by omega] at hL
 exact hL
theorem Bh7 (a0:E5) (a1:Int) r (h:Sg a0 a1=some r):Aka a0 a1=some ((r.1.1,r.1.2.1,r.1.2.2.1,r.1.2.2.2.1.1,r.1.2.2.2.1.2.1,r.1.2.2.2.1.2.2.1,r.1.2.2.2.1.2.2.2.1,r.1.2.2.2.2.1,r.1.2.2.2.2.2.1,r.1.2.2.2.2.2.2.1.1,r.2.1,r.2.2,()),(())):=by
 unfold Sg at h
 split at h
 rotate_left
 ·cases h
 rename_i hk
 cases h
 obtain ⟨⟨t0,t1⟩,⟨h0,h1⟩,⟨f0,f1⟩,hp⟩:=hk
 have hh:=Ra a0.2.1
 unfold Aka Aa0
 simp only [Bv,Ir,Dt,Nd]
 show (bif decide (IntKind.i64.wrap (a0.2.2.2.1.1 + 1) > 1000000000) then _ else bif decide (IntKind.i64.wrap (a0.2.2.2.1.2.2.1 + Al a0.2.1) > 999999000) then _ else _)=_
 rw [Aj (n:=a0.2.2.2.1.1 + 1) (by omega) (by omega),Aj (n:=a0.2.2.2.1.2.2.1 + Al a0.2.1) (by omega) (by omega),Aj (n:=1 - a0.2.2.2.1.2.1) (by omega) (by omega)]
 cases hc1:decide (a0.2.2.2.1.1 + 1 > 1000000000) with
 | true=>rfl
 | false=>
  cases hc2:decide (a0.2.2.2.1.2.2.1 + Al a0.2.1 > 999999000) with
  | true=>rfl
  | false=>
   simp only [cond_false]
   have hL1:=Bnx a1 a0 ((a0.2.2.2.1.1 + 1),(1 - a0.2.2.2.1.2.1),(a0.2.2.2.1.2.2.1 + Al a0.2.1),a1,()) (Ec a0.2.2.2.2.2.2.1) [Cc (3,a1,a0.2.2.2.1.2.2.1 + Al a0.2.1,z0,()) a0.1] (Vo _) ⟨by dsimp only; omega,by dsimp only; omega⟩ (Nat.le_refl 1)
   have hL2:=Blj a1 a0 ((a0.2.2.2.1.1 + 1),(1 - a0.2.2.2.1.2.1),(a0.2.2.2.1.2.2.1 + Al a0.2.1),a1,()) (mvL a0 a1) (A6y a0 a1) ⟨by dsimp only; omega,by dsimp only; omega⟩
   have hl:=A6y a0 a1
   have e1:Bt (a0.2.2.2.2.2.2.1.1,())=some (a0.2.2.2.2.2.2.1.1,()):=if_pos hp
   have e2:decide (((C7 (Bn (1 - a0.2.2.2.1.2.1) a0.2.1) (mvL a0 a1)).length + 3) * 32≤140737488355328)=true:=Ag (by rw [Sy]; omega)
   refine Qe hL1 ?_
   dsimp only
   refine Qe hL2 ?_
   dsimp only
   simp only [List.length_cons,List.length_nil,Nat.zero_add,Nat.reduceAdd]
   rw [e2,e1]
   rfl
def Aoz {R:Type} (k:Kt R):=(I3 (Jk 8) (.exit 0) 2 k)
def Ak5 {R:Type} (k:Kt R):=(I3 (Jk 14) (.exit 2) 4 k)
def Ao0 {R:Type}:Lt R Jk:=(Ea (pat:=Jk) 8 (fun d k=>(Bao d).bind (Aoz k)) (Ea (pat:=Jk) 14 (fun d k=>(A42 d).bind (Ak5 k)) Hn))
theorem Akb:A2 Tryz.prog Aj9:=A5 ⟨R6,Afy,O7,A39,Wp,Rs,Ahb,A15,trivial⟩
theorem A43 {R:Type}:A4 Tryz.prog R 119 0 Jk Ao0 Ak4:=
 B8 (cfg:=⟨Aj9,0,119,Jk⟩) 14 [] (fun NX X d=>(u4 (u4 (u4 (u4 (Ac (Ac Ae)))))) (Q1  NX X) d) (fun m d=>(u4 (u4 (u4 (u4 (Ac (Ac Ae)))))) (Fs m) d) (fun d=>(u4 (u4 (u4 (u4 (Ac (Ac Ae)))))) Nf d) Ak5 Akb trivial (fun f NX d=>by simp only [u4,Ac,Ae]; unfold Q1; simp only [nb])
theorem Bap {R:Type}:A4 Tryz.prog R 119 0 Jk Ao0 Aoy:=
 B8 (cfg:=⟨Aj9,0,119,Jk⟩) 8 [] (fun NX X d=>(u4 (u4 (u4 (u4 (Ac Ae))))) (Sh  NX X) d) (fun m d=>(u4 (u4 (u4 (u4 (Ac Ae))))) (G3 m) d) (fun d=>(u4 (u4 (u4 (u4 (Ac Ae))))) Pm d) Aoz Akb trivial (fun f NX d=>by simp only [u4,Ac,Ae]; unfold Sh; simp only [nb])
theorem Ayp:Bs Tryz.prog 104 Aj8:=
 A3 (pat:=Jk) [Aoy,Ak4] Ao0 Akb ⟨Bap,A43,trivial⟩ Tryz.func104 (de:=fun x=>Aka x.1 x.2.1) (fun x r h=>F1 (Bh7 x.1 x.2.1) h) fun _=>by kernel_rfl
end Go.Proofs.YtfkefgbihlfjmaaGreat.V
end
