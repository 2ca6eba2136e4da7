import Derived.Test.YtgljlakbfdnmfaaGreatP1
set_option linter.all false
open Option renaming bind_some->zQk
open List renaming getElem?_eq_getElem->zQx,getElem_mem->zQz,length_append->zJk,getElem_of_mem->zJz,replicate->zKq,mem_cons_self->zKj,length_cons->zXk,drop_eq_getElem_cons->zXx,getElem?_eq_some_iff->zQj
open Bool renaming and_eq_true->zJq,not_true->zXj
open Nat renaming zero_add->zJj,le_refl->zQq
open Int renaming toNat_natCast->zXz
section
namespace Go.Ab
theorem Mc {l:List TX}(hl:l.length<=1048576)(t:Int){p q:TX->Bool}(mono:∀i j (hij:i<=j) (hj:j<l.length),p l[j]=true->p (l[i]'(by omega))=true)
 (hc:∀x∈l,∃n:Int,El (x,t,())=some (n,())/\decide (n<0)=p x/\(n==0)=q x):
 Bb (l,t,(),())=some (((l.takeWhile p).length:Int),Im q (l.dropWhile p),()):=by
 unfold Bb
 obtain⟨c,hc1,hc2,hc3,hc4⟩:=QJ (n:=l.length) (p:=fun k=>match l[k]? with|some x=>p x|none=>false)
  (B:=fun v=>AE (l,t,(),(l.length:Int),()) v _ some)
  (by
    intro i j hij hj h
    have hi:i<l.length:=by omega
    simp only[zQx hj,zQx hi]at h ⊢
    exact mono i j hij hj h)
  (by
    intro i j hij hj
    have hm:(i+j) / 2<l.length:=by omega
    obtain⟨n,e1,e2,e3⟩:=hc _ (zQz hm)
    unfold AE
    simp only[MI (i:=i) (j:=j) (by omega),Ai hm,zQk,zQx hm,decide_eq_true (by omega:(i:Int)<(j:Int)),cond_true]
    erw [e1]
    simp only[zQk,e2,Ah hm (by omega)]
    cases p l[(i+j) / 2]<;>rfl)
  (by
    intro i hi
    unfold AE
    simp only[Int.lt_irrefl,decide_false,cond_false])
 erw [hc2]
 obtain⟨t1,t2⟩:=QM (l:=l) (p:=p) (c:=c) hc1 (fun k hk h=>by have:=hc3 k h;simpa only[zQx hk]using this) (fun k hk h=>by have:=hc4 k h hk;simpa only[zQx hk]using this)
 have tl:(l.takeWhile p).length=c:=by rw[<-t1];simp;omega
 rw[<-t2,tl]
 simp only[zQk]
 by_cases hcl:c<l.length
 ·obtain⟨n,e1,e2,e3⟩:=hc _ (zQz hcl)
  simp only[Ai hcl,decide_eq_true (by omega:(c:Int)<(l.length:Int)),cond_true,zQk]
  erw [e1]
  rw[zXx hcl]
  simp only[zQk,e3,Im]
 ·rw[List.drop_of_length_le (by omega)]
  simp only[decide_eq_false (by omega:¬(c:Int)<(l.length:Int)),cond_false,Im]
theorem Pp {l:List VM}(hl:l.length<=1048576)(t:Int){p q:VM->Bool}(mono:∀i j (hij:i<=j) (hj:j<l.length),p l[j]=true->p (l[i]'(by omega))=true)
 (hc:∀x∈l,∃n:Int,Hx (x,t,())=some (n,())/\decide (n<0)=p x/\(n==0)=q x):
 Bw (l,t,(),())=some (((l.takeWhile p).length:Int),Im q (l.dropWhile p),()):=by
 unfold Bw
 obtain⟨c,hc1,hc2,hc3,hc4⟩:=QJ (n:=l.length) (p:=fun k=>match l[k]? with|some x=>p x|none=>false)
  (B:=fun v=>AM (l,t,(),(l.length:Int),()) v _ some)
  (by
    intro i j hij hj h
    have hi:i<l.length:=by omega
    simp only[zQx hj,zQx hi]at h ⊢
    exact mono i j hij hj h)
  (by
    intro i j hij hj
    have hm:(i+j) / 2<l.length:=by omega
    obtain⟨n,e1,e2,e3⟩:=hc _ (zQz hm)
    unfold AM
    simp only[MI (i:=i) (j:=j) (by omega),Ai hm,zQk,zQx hm,decide_eq_true (by omega:(i:Int)<(j:Int)),cond_true]
    erw [e1]
    simp only[zQk,e2,Ah hm (by omega)]
    cases p l[(i+j) / 2]<;>rfl)
  (by
    intro i hi
    unfold AM
    simp only[Int.lt_irrefl,decide_false,cond_false])
 erw [hc2]
 obtain⟨t1,t2⟩:=QM (l:=l) (p:=p) (c:=c) hc1 (fun k hk h=>by have:=hc3 k h;simpa only[zQx hk]using this) (fun k hk h=>by have:=hc4 k h hk;simpa only[zQx hk]using this)
 have tl:(l.takeWhile p).length=c:=by rw[<-t1];simp;omega
 rw[<-t2,tl]
 simp only[zQk]
 by_cases hcl:c<l.length
 ·obtain⟨n,e1,e2,e3⟩:=hc _ (zQz hcl)
  simp only[Ai hcl,decide_eq_true (by omega:(c:Int)<(l.length:Int)),cond_true,zQk]
  erw [e1]
  rw[zXx hcl]
  simp only[zQk,e3,Im]
 ·rw[List.drop_of_length_le (by omega)]
  simp only[decide_eq_false (by omega:¬(c:Int)<(l.length:Int)),cond_false,Im]
theorem MD {l:List VM}(hl:l.length<=1048576)(t:Int){p q:VM->Bool}(mono:∀i j (hij:i<=j) (hj:j<l.length),p l[j]=true->p (l[i]'(by omega))=true)
 (hc:∀x∈l,∃n:Int,EE (x,t,())=some (n,())/\decide (n<0)=p x/\(n==0)=q x):
 Bd (l,t,(),())=some (((l.takeWhile p).length:Int),Im q (l.dropWhile p),()):=by
 unfold Bd
 obtain⟨c,hc1,hc2,hc3,hc4⟩:=QJ (n:=l.length) (p:=fun k=>match l[k]? with|some x=>p x|none=>false)
  (B:=fun v=>AG (l,t,(),(l.length:Int),()) v _ some)
  (by
    intro i j hij hj h
    have hi:i<l.length:=by omega
    simp only[zQx hj,zQx hi]at h ⊢
    exact mono i j hij hj h)
  (by
    intro i j hij hj
    have hm:(i+j) / 2<l.length:=by omega
    obtain⟨n,e1,e2,e3⟩:=hc _ (zQz hm)
    unfold AG
    simp only[MI (i:=i) (j:=j) (by omega),Ai hm,zQk,zQx hm,decide_eq_true (by omega:(i:Int)<(j:Int)),cond_true]
    erw [e1]
    simp only[zQk,e2,Ah hm (by omega)]
    cases p l[(i+j) / 2]<;>rfl)
  (by
    intro i hi
    unfold AG
    simp only[Int.lt_irrefl,decide_false,cond_false])
 erw [hc2]
 obtain⟨t1,t2⟩:=QM (l:=l) (p:=p) (c:=c) hc1 (fun k hk h=>by have:=hc3 k h;simpa only[zQx hk]using this) (fun k hk h=>by have:=hc4 k h hk;simpa only[zQx hk]using this)
 have tl:(l.takeWhile p).length=c:=by rw[<-t1];simp;omega
 rw[<-t2,tl]
 simp only[zQk]
 by_cases hcl:c<l.length
 ·obtain⟨n,e1,e2,e3⟩:=hc _ (zQz hcl)
  simp only[Ai hcl,decide_eq_true (by omega:(c:Int)<(l.length:Int)),cond_true,zQk]
  erw [e1]
  rw[zXx hcl]
  simp only[zQk,e3,Im]
 ·rw[List.drop_of_length_le (by omega)]
  simp only[decide_eq_false (by omega:¬(c:Int)<(l.length:Int)),cond_false,Im]
theorem Lh {l:List VM}(hl:l.length<=1048576)(t:Int){p q:VM->Bool}(mono:∀i j (hij:i<=j) (hj:j<l.length),p l[j]=true->p (l[i]'(by omega))=true)
 (hc:∀x∈l,∃n:Int,Dp (x,t,())=some (n,())/\decide (n<0)=p x/\(n==0)=q x):
 AY (l,t,(),())=some (((l.takeWhile p).length:Int),Im q (l.dropWhile p),()):=by
 unfold AY
 obtain⟨c,hc1,hc2,hc3,hc4⟩:=QJ (n:=l.length) (p:=fun k=>match l[k]? with|some x=>p x|none=>false)
  (B:=fun v=>AA (l,t,(),(l.length:Int),()) v _ some)
  (by
    intro i j hij hj h
    have hi:i<l.length:=by omega
    simp only[zQx hj,zQx hi]at h ⊢
    exact mono i j hij hj h)
  (by
    intro i j hij hj
    have hm:(i+j) / 2<l.length:=by omega
    obtain⟨n,e1,e2,e3⟩:=hc _ (zQz hm)
    unfold AA
    simp only[MI (i:=i) (j:=j) (by omega),Ai hm,zQk,zQx hm,decide_eq_true (by omega:(i:Int)<(j:Int)),cond_true]
    erw [e1]
    simp only[zQk,e2,Ah hm (by omega)]
    cases p l[(i+j) / 2]<;>rfl)
  (by
    intro i hi
    unfold AA
    simp only[Int.lt_irrefl,decide_false,cond_false])
 erw [hc2]
 obtain⟨t1,t2⟩:=QM (l:=l) (p:=p) (c:=c) hc1 (fun k hk h=>by have:=hc3 k h;simpa only[zQx hk]using this) (fun k hk h=>by have:=hc4 k h hk;simpa only[zQx hk]using this)
 have tl:(l.takeWhile p).length=c:=by rw[<-t1];simp;omega
 rw[<-t2,tl]
 simp only[zQk]
 by_cases hcl:c<l.length
 ·obtain⟨n,e1,e2,e3⟩:=hc _ (zQz hcl)
  simp only[Ai hcl,decide_eq_true (by omega:(c:Int)<(l.length:Int)),cond_true,zQk]
  erw [e1]
  rw[zXx hcl]
  simp only[zQk,e3,Im]
 ·rw[List.drop_of_length_le (by omega)]
  simp only[decide_eq_false (by omega:¬(c:Int)<(l.length:Int)),cond_false,Im]
theorem N7 {l:List VM}(hl:l.length<=1048576)(t:VM){p q:VM->Bool}(mono:∀i j (hij:i<=j) (hj:j<l.length),p l[j]=true->p (l[i]'(by omega))=true)
 (hc:∀x∈l,∃n:Int,Ch (x,t,())=some (n,())/\decide (n<0)=p x/\(n==0)=q x):
 Bh (l,t,(),())=some (((l.takeWhile p).length:Int),Im q (l.dropWhile p),()):=by
 unfold Bh
 obtain⟨c,hc1,hc2,hc3,hc4⟩:=QJ (n:=l.length) (p:=fun k=>match l[k]? with|some x=>p x|none=>false)
  (B:=fun v=>AH (l,(),(l.length:Int),t.1,t.2.1,()) v _ some)
  (by
    intro i j hij hj h
    have hi:i<l.length:=by omega
    simp only[zQx hj,zQx hi]at h ⊢
    exact mono i j hij hj h)
  (by
    intro i j hij hj
    have hm:(i+j) / 2<l.length:=by omega
    obtain⟨n,e1,e2,e3⟩:=hc _ (zQz hm)
    unfold AH
    simp only[MI (i:=i) (j:=j) (by omega),Ai hm,zQk,zQx hm,decide_eq_true (by omega:(i:Int)<(j:Int)),cond_true]
    erw [e1]
    simp only[zQk,e2,Ah hm (by omega)]
    cases p l[(i+j) / 2]<;>rfl)
  (by
    intro i hi
    unfold AH
    simp only[Int.lt_irrefl,decide_false,cond_false])
 erw [hc2]
 obtain⟨t1,t2⟩:=QM (l:=l) (p:=p) (c:=c) hc1 (fun k hk h=>by have:=hc3 k h;simpa only[zQx hk]using this) (fun k hk h=>by have:=hc4 k h hk;simpa only[zQx hk]using this)
 have tl:(l.takeWhile p).length=c:=by rw[<-t1];simp;omega
 rw[<-t2,tl]
 simp only[zQk]
 by_cases hcl:c<l.length
 ·obtain⟨n,e1,e2,e3⟩:=hc _ (zQz hcl)
  simp only[Ai hcl,decide_eq_true (by omega:(c:Int)<(l.length:Int)),cond_true,zQk]
  erw [e1]
  rw[zXx hcl]
  simp only[zQk,e3,Im]
 ·rw[List.drop_of_length_le (by omega)]
  simp only[decide_eq_false (by omega:¬(c:Int)<(l.length:Int)),cond_false,Im]
theorem MC {l:List _}(hl:l.length<=1048576)(c:_){p:_->Bool}(hc:∀x∈l,DJ (x,c)=some (p x,())):BT (l,c,())=some (fx (l.findIdx? p),()):=by
 unfold BT
 refine DK hl (p:=p) (fun i h=>?_) ?_
 ·unfold Bc
  have e:=hc _ (zQz h)
  simp only[Ai h,zQk]
  rw[decide_eq_true (by omega),Ah h (by omega)]
  simp only[cond_true]
  erw [e]
  simp only[zQk]
  cases p l[i]<;>rfl
 ·unfold Bc
  simp only
  rw[decide_eq_false (by omega)];rfl
theorem NS {l:List _}(hl:l.length<=1048576)(c:_){p:_->Bool}(hc:∀x∈l,I5 (x,c)=some (p x,())):Cf (l,c,())=some (fx (l.findIdx? p),()):=by
 unfold Cf
 refine DK hl (p:=p) (fun i h=>?_) ?_
 ·unfold Bl
  have e:=hc _ (zQz h)
  simp only[Ai h,zQk]
  rw[decide_eq_true (by omega),Ah h (by omega)]
  simp only[cond_true]
  erw [e]
  simp only[zQk]
  cases p l[i]<;>rfl
 ·unfold Bl
  simp only
  rw[decide_eq_false (by omega)];rfl
theorem M7 {l:List _}(hl:l.length<=1048576)(c:_){p:_->Bool}(hc:∀x∈l,Dk (x,c)=some (p x,())):BP (l,c,())=some (fx (l.findIdx? p),()):=by
 unfold BP
 refine DK hl (p:=p) (fun i h=>?_) ?_
 ·unfold B7
  have e:=hc _ (zQz h)
  simp only[Ai h,zQk]
  rw[decide_eq_true (by omega),Ah h (by omega)]
  simp only[cond_true]
  erw [e]
  simp only[zQk]
  cases p l[i]<;>rfl
 ·unfold B7
  simp only
  rw[decide_eq_false (by omega)];rfl
theorem N5 {l:List _}(hl:l.length<=1048576)(c:_){p:_->Bool}(hc:∀x∈l,Ed (x,c)=some (p x,())):C3 (l,c,())=some (fx (l.findIdx? p),()):=by
 unfold C3
 refine DK hl (p:=p) (fun i h=>?_) ?_
 ·unfold Bg
  have e:=hc _ (zQz h)
  simp only[Ai h,zQk]
  rw[decide_eq_true (by omega),Ah h (by omega)]
  simp only[cond_true]
  erw [e]
  simp only[zQk]
  cases p l[i]<;>rfl
 ·unfold Bg
  simp only
  rw[decide_eq_false (by omega)];rfl
theorem NR {l:List _}(hl:l.length<=1048576)(c:_){p:_->Bool}(hc:∀x∈l,I1 (x,c)=some (p x,())):Ce (l,c,())=some (fx (l.findIdx? p),()):=by
 unfold Ce
 refine DK hl (p:=p) (fun i h=>?_) ?_
 ·unfold Bk
  have e:=hc _ (zQz h)
  simp only[Ai h,zQk]
  rw[decide_eq_true (by omega),Ah h (by omega)]
  simp only[cond_true]
  erw [e]
  simp only[zQk]
  cases p l[i]<;>rfl
 ·unfold Bk
  simp only
  rw[decide_eq_false (by omega)];rfl
theorem NQ {l:List _}(hl:l.length<=1048576)(c:_){p:_->Bool}(hc:∀x∈l,HZ (x,c)=some (p x,())):Cd (l,c,())=some (fx (l.findIdx? p),()):=by
 unfold Cd
 refine DK hl (p:=p) (fun i h=>?_) ?_
 ·unfold Bj
  have e:=hc _ (zQz h)
  simp only[Ai h,zQk]
  rw[decide_eq_true (by omega),Ah h (by omega)]
  simp only[cond_true]
  erw [e]
  simp only[zQk]
  cases p l[i]<;>rfl
 ·unfold Bj
  simp only
  rw[decide_eq_false (by omega)];rfl
theorem L6 {l:List _}(hl:l.length<=1048576)(c:_){p:_->Bool}(hc:∀x∈l,Cn (x,c)=some (p x,())):BC (l,c,())=some (fx (l.findIdx? p),()):=by
 unfold BC
 refine DK hl (p:=p) (fun i h=>?_) ?_
 ·unfold AX
  have e:=hc _ (zQz h)
  simp only[Ai h,zQk]
  rw[decide_eq_true (by omega),Ah h (by omega)]
  simp only[cond_true]
  erw [e]
  simp only[zQk]
  cases p l[i]<;>rfl
 ·unfold AX
  simp only
  rw[decide_eq_false (by omega)];rfl
theorem L7 {l:List _}(hl:l.length<=1048576)(c:_){p:_->Bool}(hc:∀x∈l,Cn (x,c)=some (p x,())):Bz (l,c,())=some (l.any p,()):=by
 unfold Bz
 have e:=L6 hl c hc
 erw [e]
 simp only[zQk,an,List.findIdx?_isSome]
theorem M6 {l:List _}(hl:l.length<=1048576)(c:_){p:_->Bool}(hc:∀x∈l,Di (x,c)=some (p x,())):BO (l,c,())=some (fx (l.findIdx? p),()):=by
 unfold BO
 refine DK hl (p:=p) (fun i h=>?_) ?_
 ·unfold B6
  have e:=hc _ (zQz h)
  simp only[Ai h,zQk]
  rw[decide_eq_true (by omega),Ah h (by omega)]
  simp only[cond_true]
  erw [e]
  simp only[zQk]
  cases p l[i]<;>rfl
 ·unfold B6
  simp only
  rw[decide_eq_false (by omega)];rfl
theorem Ma {l:List _}(hl:l.length<=1048576)(c:_){p:_->Bool}(hc:∀x∈l,Di (x,c)=some (p x,())):BH (l,c,())=some (l.any p,()):=by
 unfold BH
 have e:=M6 hl c hc
 erw [e]
 simp only[zQk,an,List.findIdx?_isSome]
theorem Kn {l:List VM}(hl:l.length<=1048576)(id:Int){q:VM->Bool}(hc:∀x:VM,Dk (x,some id,())=some (q x,())):
 CU (l,id,())=some (id,l.filter (fun x=>!q x),()):=by
 unfold CU
 have e:=M7 hl (some id,()) (p:=q) (fun x _=>hc x)
 erw [e]
 simp only[zQk]
 cases hf:l.findIdx? q with
 |none=>
  have h:=List.findIdx?_eq_none_iff.1 hf
  have:l.filter (fun x=>!q x)=l:=List.filter_eq_self.2 fun x hx=>by simp[h x hx]
  simp only[fx,this]
  rfl
 |some i0=>
  obtain⟨h0,hq,hlt⟩:=List.findIdx?_eq_some_iff_getElem.1 hf
  obtain⟨i,xs,h1,h2,h3,h4⟩:=SS (l:=l) (q:=q) (B:=fun v=>Bq (id,()) v _ some)
   (by
     intro i j xs hi hj h
     have hj':j<xs.length:=by omega
     have hi':i<xs.length:=by omega
     have c1:(0:Int)<=(j:Int)/\(j:Int)<(xs.length:Int):=by omega
     have c2:(0:Int)<=(i:Int)/\(i:Int)<(xs.length:Int):=by omega
     unfold Bq
     simp only[decide_eq_true c1.2,cond_true,c1,c2,and_self,if_true,zJj,zXz,zQx hj',zQx hi',zQk]
     erw [hc]
     simp only[zQk,Ah hj' (by omega:xs.length<9223372036854775808),Ah hi' (by omega:xs.length<9223372036854775808)]
     cases q xs[j]<;>rfl)
   (by
     intro i xs h hi
     unfold Bq
     simp only[h,Int.lt_irrefl,decide_false,cond_false])
   h0 hq (fun k hk=>by simpa using hlt k hk)
  have e0:((i0:Int)==-1)=false:=by rw[beq_eq_false_iff_ne];omega
  simp only[fx,e0,cond_false,Ah h0 (by omega)]
  erw [h1]
  simp only[zQk]
  rw[<-h4]
  exact WG (z:=(0,0,())) h2 (fun r=>some (id,r,()))
theorem K1 {l:List VM}(hl:l.length<=1048576)(id:Int){q:VM->Bool}(hc:∀x:VM,Ed (x,some id,())=some (q x,())):
 CD (l,id,())=some (id,l.filter (fun x=>!q x),()):=by
 unfold CD
 have e:=N5 hl (some id,()) (p:=q) (fun x _=>hc x)
 erw [e]
 simp only[zQk]
 cases hf:l.findIdx? q with
 |none=>
  have h:=List.findIdx?_eq_none_iff.1 hf
  have:l.filter (fun x=>!q x)=l:=List.filter_eq_self.2 fun x hx=>by simp[h x hx]
  simp only[fx,this]
  rfl
 |some i0=>
  obtain⟨h0,hq,hlt⟩:=List.findIdx?_eq_some_iff_getElem.1 hf
  obtain⟨i,xs,h1,h2,h3,h4⟩:=SS (l:=l) (q:=q) (B:=fun v=>Be (id,()) v _ some)
   (by
     intro i j xs hi hj h
     have hj':j<xs.length:=by omega
     have hi':i<xs.length:=by omega
     have c1:(0:Int)<=(j:Int)/\(j:Int)<(xs.length:Int):=by omega
     have c2:(0:Int)<=(i:Int)/\(i:Int)<(xs.length:Int):=by omega
     unfold Be
     simp only[decide_eq_true c1.2,cond_true,c1,c2,and_self,if_true,zJj,zXz,zQx hj',zQx hi',zQk]
     erw [hc]
     simp only[zQk,Ah hj' (by omega:xs.length<9223372036854775808),Ah hi' (by omega:xs.length<9223372036854775808)]
     cases q xs[j]<;>rfl)
   (by
     intro i xs h hi
     unfold Be
     simp only[h,Int.lt_irrefl,decide_false,cond_false])
   h0 hq (fun k hk=>by simpa using hlt k hk)
  have e0:((i0:Int)==-1)=false:=by rw[beq_eq_false_iff_ne];omega
  simp only[fx,e0,cond_false,Ah h0 (by omega)]
  erw [h1]
  simp only[zQk]
  rw[<-h4]
  exact WG (z:=(0,0,())) h2 (fun r=>some (id,r,()))
theorem Km {l:List VM}(hl:l.length<=1048576)(o:OPt){q:VM->Bool}(hc:∀x:VM,DJ (x,some o,())=some (q x,())):
 C5 (l,o.1,o.2.1,o.2.2.1,o.2.2.2.1,o.2.2.2.2.1,o.2.2.2.2.2.1,())=some (o.1,o.2.1,o.2.2.1,o.2.2.2.1,o.2.2.2.2.1,o.2.2.2.2.2.1,l.filter (fun x=>!q x),()):=by
 unfold C5
 have e:=MC hl (some o,()) (p:=q) (fun x _=>hc x)
 erw [e]
 simp only[zQk]
 cases hf:l.findIdx? q with
 |none=>
  have h:=List.findIdx?_eq_none_iff.1 hf
  have:l.filter (fun x=>!q x)=l:=List.filter_eq_self.2 fun x hx=>by simp[h x hx]
  simp only[fx,this]
  rfl
 |some i0=>
  obtain⟨h0,hq,hlt⟩:=List.findIdx?_eq_some_iff_getElem.1 hf
  obtain⟨i,xs,h1,h2,h3,h4⟩:=SS (l:=l) (q:=q) (B:=fun v=>Bp (o.1,o.2.1,o.2.2.1,o.2.2.2.1,o.2.2.2.2.1,o.2.2.2.2.2.1,()) v _ some)
   (by
     intro i j xs hi hj h
     have hj':j<xs.length:=by omega
     have hi':i<xs.length:=by omega
     have c1:(0:Int)<=(j:Int)/\(j:Int)<(xs.length:Int):=by omega
     have c2:(0:Int)<=(i:Int)/\(i:Int)<(xs.length:Int):=by omega
     unfold Bp
     simp only[decide_eq_true c1.2,cond_true,c1,c2,and_self,if_true,zJj,zXz,zQx hj',zQx hi',zQk]
     erw [hc]
     simp only[zQk,Ah hj' (by omega:xs.length<9223372036854775808),Ah hi' (by omega:xs.length<9223372036854775808)]
     cases q xs[j]<;>rfl)
   (by
     intro i xs h hi
     unfold Bp
     simp only[h,Int.lt_irrefl,decide_false,cond_false])
   h0 hq (fun k hk=>by simpa using hlt k hk)
  have e0:((i0:Int)==-1)=false:=by rw[beq_eq_false_iff_ne];omega
  simp only[fx,e0,cond_false,Ah h0 (by omega)]
  erw [h1]
  simp only[zQk]
  rw[<-h4]
  exact WG (z:=(0,0,())) h2 (fun r=>some (o.1,o.2.1,o.2.2.1,o.2.2.2.1,o.2.2.2.2.1,o.2.2.2.2.2.1,r,()))
end Go.Ab
end
section
namespace Go.Ab
theorem RZ {α:Type}{f:α->Int}{l:List α}(h:J6 f l){a:Int}{n:Nat}(hb:∀x∈l,a<=f x/\f x<a+n):l.length<=n:=by
 induction l generalizing a n with
 |nil=>exact Nat.zero_le _
 |cons x l ih=>
  have h1:=List.pairwise_cons.1 h
  have hx:=hb x (zKj)
  have:=ih h1.2 (a:=f x+1) (n:=(a+n-(f x+1)).toNat) (fun y hy=>by
   have:=h1.1 y hy
   have:=hb y (List.mem_cons_of_mem _ hy)
   omega)
  simp only[zXk]
  omega
theorem SI {l:List VM}(h:Rx l):l.length<=6:=by
 have:=(LC l).1 h
 exact RZ this.2 (a:=0) (n:=6) (fun x hx=>by have:=Br.1 (this.1 x hx).1;omega)
theorem OkG.lkLen {e:EG}(H:OkG e):e.2.2.1.length<=6:=RZ H.lkU (a:=0) (n:=6) (fun x hx=>by have:=Br.1 (H.lkA x hx).1;omega)
theorem OkG.wtLen {e:EG}(H:OkG e):e.2.2.2.1.length<=9:=RZ H.wtU (a:=1) (n:=9) (fun x hx=>by have:=Br.1 (H.wtA x hx).1;omega)
theorem OkG.small {e:EG}(H:OkG e):SmallE e.1 e.2.1 e.2.2.1 e.2.2.2.1:=by
 have hg:=H.gd
 refine⟨⟨by have:=hg.six;omega,fun l hl=>?_⟩,by have:=H.len;omega,fun t ht=>?_,by have:=H.lkLen;omega,by have:=H.wtLen;omega⟩
 ·have:=(hg.ok l hl).2
  unfold IA;omega
 ·have h:=(DG t).1 (H.txA t ht).1
  have h1:=SI h.2.1
  have h2:=h.2.2.2.2.2.2.2.2.2.2
  exact⟨by omega,by omega⟩
theorem Ta {l:List VM}(hl:l.length<=1048576)(id:Int):GY (l,id,())=some (X9 l id,()):=by
 unfold GY X9
 simp only[ZH hl,zQk,Kn hl id (q:=fun m=>m.2.1==id) (fun x=>by simp[Dk])]
theorem ZD {l:List VM}(hl:l.length<=1048576)(id:Int):IK (l,id,())=some (aD l id,()):=by
 unfold IK aD
 simp only[SG hl,zQk,K1 hl id (q:=fun m=>m.1==id||m.2.1==id) (fun x=>by simp only[Ed,zQk];cases x.1==id<;>rfl)]
 simp only[Bool.not_or]
theorem dm {l:List VM}(hl:l.length<=1048576)(o:OPt):C5 (l,o)=some (o.1,o.2.1,o.2.2.1,o.2.2.2.1,o.2.2.2.2.1,o.2.2.2.2.2.1,wkW l o.2.1,()):=
 Km hl o (q:=fun m=>m.1==o.2.1) (fun x=>by simp[DJ])
theorem TM {s:List (List VV)}{l:List TX}{lk wt:List VM}{k:Nat}(hk:k<l.length)(hl:lk.length<=1048576)(hw:wt.length<=1048576)(ce:Bool)(st:Int):
 Eb (k,ce,st,s,l,lk,wt,())=some (ce,st,s,l,lk,wt,X9 lk l[k].1,aD wt l[k].1,()):=by
 simp only[Eb,zQx hk,zQk,Ta hl,ZD hw]
theorem JU {s:List (List VV)}{l:List TX}{lk wt:List VM}{k:Nat}(hk:k<l.length)(hl:lk.length<=1048576)(hw:wt.length<=1048576)(c:Int)(ce:Bool)(st:Int):
 Bi (k,c,ce,st,s,l,lk,wt,())=some (c,ce,st,s,l.set k (Gw l[k] 3),lk,wt,X9 lk l[k].1,aD wt l[k].1,()):=by
 unfold Bi
 simp only[zQx hk,zQk]
 have hk':k<(l.set k (Gw l[k] 3)).length:=by simpa using hk
 have e:=TM (s:=s) (k:=k) (l:=l.set k (Gw l[k] 3)) hk' hl hw ce st
 simp only[Gw]at e ⊢
 rw[e]
 simp
theorem OH {α:Type}(p:α->Bool)(l:List α):l.find? p=(l.findIdx? p).bind (l[·]?):=by
 cases h:l.findIdx? p with
 |none=>exact List.find?_eq_none.2 fun x hx=>by simpa using List.findIdx?_eq_none_iff.1 h x hx
 |some i=>
  obtain⟨h1,h2,h3⟩:=List.findIdx?_eq_some_iff_getElem.1 h
  rw[zQk,zQx h1]
  exact List.find?_eq_some_iff_getElem.2 ⟨h2,i,h1,rfl,fun j hj=>by simpa using h3 j hj⟩
theorem A6k (t:TX)(h:smT t)(key:Int):Jp ((t.1,t.2.1,t.2.2.1,t.2.2.2.1,t.2.2.2.2.1,t.2.2.2.2.2.1,t.2.2.2.2.2.2.1,t.2.2.2.2.2.2.2.1,t.2.2.2.2.2.2.2.2.1,()),key,())=some (fx (t.2.2.2.2.2.2.2.2.1.findIdx? fun m=>m.1==key),()):=by
 unfold Jp
 simp only[NS h.2 (some key,()) (p:=fun m=>m.1==key) (fun x _=>by simp[I5]),zQk]
theorem Wv {s:List (List VV)}(h6:s.length=6){key:Int}(hk:inB key 0 5=true):∃(n:Nat) (h:n<s.length),key=(n:Int)/\lAt s key=some s[n]/\s[key.toNat]? =some s[n]:=by
 have:=Br.1 hk
 obtain⟨n,rfl⟩:=Int.eq_ofNat_of_zero_le this.1
 have hn:n<s.length:=by omega
 exact⟨n,hn,rfl,Ai hn,by simp[hn]⟩
theorem J5 {n:Nat}(h:n<9223372036854775808):IntKind.i64.wrap ((n:Int)-1)=(n:Int)-1:=Bn (by omega) (by omega)
theorem Wf {s:List (List VV)}(hs:G6 s)(h6:s.length=6)(t:TX){key:Int}(hk:inB key 0 5=true):
 GX ((s,()),(t.1,t.2.1,t.2.2.1,t.2.2.2.1,t.2.2.2.2.1,t.2.2.2.2.2.1,t.2.2.2.2.2.2.1,t.2.2.2.2.2.2.2.1,t.2.2.2.2.2.2.2.2.1,()),key,())=some (match KM s t key with|none=>(0,0,0,0,0,3,())|some v=>(v.1,v.2.1,v.2.2.1,v.2.2.2.1,v.2.2.2.2.1,0,())):=by
 obtain⟨n,hn,e1,e2,e3⟩:=Wv h6 hk
 have hl:IA s[n]:=hs.2 _ (zQz hn)
 unfold GX KM
 unfold IA at hl
 simp only[e2,e3,zQk,A6q (hs.2 _ (zQz hn)),J5 (by omega:s[n].length<9223372036854775808)]
 generalize hl':s[n]=l at*
 have key:∀i:Int,i<l.length->(bif decide (i<0)then some ((0:Int),(0:Int),(0:Int),(0:Int),(0:Int),(3:Int),())else bif t.2.1==4 then(lAt l i).bind fun v_2=>bif decide (v_2.2.2.1>t.2.2.2.1)then some (0,0,0,0,0,3,())else(lAt l i).bind fun v=>some (v.1,v.2.1,v.2.2.1,v.2.2.2.1,v.2.2.2.2.1,0,())else(lAt l i).bind fun v=>some (v.1,v.2.1,v.2.2.1,v.2.2.2.1,v.2.2.2.2.1,0,()))=some (match(bif decide (i<0)then none else(l[i.toNat]?).bind fun v=>bif t.2.1==4&&decide (v.2.2.1>t.2.2.2.1)then none else some v)with|none=>(0,0,0,0,0,3,())|some v=>(v.1,v.2.1,v.2.2.1,v.2.2.2.1,v.2.2.2.2.1,0,())):=by
  intro i hi
  by_cases h0:i<0
  ·simp[h0]
  ·obtain⟨j,rfl⟩:=Int.eq_ofNat_of_zero_le (by omega:0<=i)
   have hj:j<l.length:=by omega
   simp only[decide_eq_false h0,cond_false,Ai hj,zQk,zXz,zQx hj]
   cases t.2.1==4
   ·simp
   ·simp only[cond_true,Bool.true_and]
    cases decide (l[j].2.2.1>t.2.2.2.1)<;>simp
 cases t.2.1==2
 ·simp only[cond_false];exact key _ (by omega)
 ·simp only[cond_true];exact key _ (RY _ _ _).2
end Go.Ab
end
section
namespace Go.Ab
theorem Alo (a b:VM):∃n:Int,Ch (a,b,())=some (n,())/\decide (n<0)=IQ a b/\(n==0)=decide (a=b):=by
 obtain⟨n,e1,e2⟩:=Om a b
 refine⟨n,e1,?_,?_⟩
 ·by_cases h:CC a b
  ·rw[ML.2 h];exact decide_eq_true (by by_cases hn:n<0;exact hn;exact absurd h (e2.1 (by omega)))
  ·have h0:IQ a b=false:=by cases h1:IQ a b with|false=>rfl|true=>exact absurd (ML.1 h1) h
   rw[h0];exact decide_eq_false (by have:=e2.2 h;omega)
 ·unfold Ch at e1
  simp only[ZG,Ang,zQk,Option.some.injEq,Prod.mk.injEq,and_true]at e1
  have hab:a=b↔a.1=b.1/\a.2.1=b.2.1:=by
   constructor
   ·rintro rfl;exact⟨rfl,rfl⟩
   ·rintro⟨h1,h2⟩;exact Prod.ext h1 (Prod.ext h2 rfl)
  rw[Bool.eq_iff_iff,beq_iff_eq,decide_eq_true_eq,hab,<-e1]
  by_cases c1:a.1<b.1
  ·simp[c1];omega
  ·by_cases c2:a.1>b.1
   ·simp[c1,c2];omega
   ·have c3:a.1=b.1:=by omega
    by_cases c4:a.2.1<b.2.1
    ·simp[c3,c4];omega
    ·by_cases c5:a.2.1>b.2.1
     ·simp[c3,c4,c5];omega
     ·simp[c3,c4,c5];omega
theorem sG {l:List VM}(h:l.Pairwise CC)(m:VM):∀i j (hij:i<=j) (hj:j<l.length),IQ l[j] m=true->IQ (l[i]'(by omega)) m=true:=by
 intro i j hij hj h1
 rw[ML]at*
 by_cases e:i=j
 ·subst e;exact h1
 ·exact Kj _ _ _ (List.pairwise_iff_getElem.1 h i j (by omega) hj (by omega)) h1
theorem Anh {l:List VM}(hl:l.length<=1048576)(h:l.Pairwise CC)(m:VM):
 Bh (l,m,(),())=some (((l.takeWhile fun x=>IQ x m).length:Int),Im (fun x=>decide (x=m)) (l.dropWhile fun x=>IQ x m),()):=
 N7 hl m (p:=fun x=>IQ x m) (q:=fun x=>decide (x=m)) (sG h m) (fun x _=>Alo x m)
theorem Pa {α:Type}{lim:Nat}{l:List α}(hl:l.length+1<=lim)(p:α->Bool)(z:α):R1 lim (((l.takeWhile p).length:Int),l,[z],())=some (l.takeWhile p++z::l.dropWhile p,()):=by
 have e:l.takeWhile p++l.dropWhile p=l:=List.takeWhile_append_dropWhile
 generalize l.takeWhile p=a at e ⊢
 generalize l.dropWhile p=b at e ⊢
 subst e
 have h1:a.length+b.length+1<=lim:=by simpa using hl
 simp[R1,h1]
theorem Zu {l:List TX}{k:Nat}(hk:k<l.length)(hr:l[k].2.2.2.2.2.2.2.1.length<=1048576)(hrd:l[k].2.2.2.2.2.2.2.1.Pairwise CC)(key:Int)(v:VV):
 DZ (k,key,v.1,v.2.1,v.2.2.1,v.2.2.2.1,v.2.2.2.2.1,l,())=some (match O5 l[k] key v with|none=>(false,l,())|some t'=>(true,l.set k t',())):=by
 unfold DZ O5
 simp only[zQx hk,zQk]
 have e60:(((l[k].2.2.2.2.2.2.2.1.length:Nat):Int)==60)=(l[k].2.2.2.2.2.2.2.1.length==60):=by
  rw[Bool.eq_iff_iff,beq_iff_eq,beq_iff_eq];omega
 rw[e60]
 cases l[k].2.2.2.2.2.2.2.1.length==60
 ·simp only[cond_false]
  erw [Anh hr hrd (key,v.2.2.1,())]
  simp only[zQk]
  unfold LA ez
  cases hd:l[k].2.2.2.2.2.2.2.1.dropWhile fun x=>IQ x (key,v.2.2.1,())with
  |nil=>
   simp only[Im,Bool.not_false,cond_true,SH hr,zQk,De]
   erw [Pa (by omega) _ _]
   simp only[zQk,hd,JG hk,KO,List.length_set]
  |cons x r=>
   simp only[Im]
   by_cases hx:x=(key,v.2.2.1,())
   ·have e:l[k].2.2.2.2.2.2.2.1=l[k].2.2.2.2.2.2.2.1.takeWhile (fun x=>IQ x (key,v.2.2.1,()))++(key,v.2.2.1,())::r:=by
     rw[<-hx]
     conv=>lhs;rw[<-List.takeWhile_append_dropWhile (p:=fun x=>IQ x (key,v.2.2.1,())) (l:=l[k].2.2.2.2.2.2.2.1),hd]
     rw[hx]
    simp only[hx,decide_true,zXj,cond_false,if_true,JG hk,zQk,KO,List.length_set]
    rw[<-e]
   ·simp only[hx,decide_false,Bool.not_false,cond_true,if_false,SH hr,zQk,De]
    erw [Pa (by omega) _ _]
    simp only[zQk,hd,JG hk,KO,List.length_set]
 ·rfl
end Go.Ab
end
section
namespace Go.Ab
abbrev EO:=Bool×Int×List (List VV)×List TX×List VM×List VM×Unit
def JA (ce:Bool)(e:EG):EO:=(ce,e.2.2.2.2,e.1,e.2.1,e.2.2.1,e.2.2.2.1,())
theorem Tk (t:TX)(key:Int):eo t key=match t.2.2.2.2.2.2.2.2.1.findIdx? (fun m=>m.1==key)with
 |none=>none|some i=>(t.2.2.2.2.2.2.2.2.1[i]?).map (·.2.1):=by
 unfold eo
 rw[OH]
 cases t.2.2.2.2.2.2.2.2.1.findIdx? (fun m=>m.1==key)<;>rfl
theorem OkG.rdUp {e:EG}(H:OkG e){k:Nat}(hk:k<e.2.1.length):e.2.1[k].2.2.2.2.2.2.2.1.Pairwise CC:=
 ((Oo _).1 ((DG _).1 (H.txA _ (zQz hk)).1).1).2
theorem OkG.smT {e:EG}(H:OkG e){k:Nat}(hk:k<e.2.1.length):smT e.2.1[k]:=H.small.ft _ (zQz hk)
theorem dp {e:EG}(H:OkG e){k:Nat}(hk:k<e.2.1.length){key:Int}(hkey:inB key 0 5=true)(ce:Bool):
 GH (k,key,JA ce e)=some ((Hr e k key).1,(Hr e k key).2.1,JA ce (Hr e k key).2.2):=by
 have hs:=H.small
 have ht:=H.smT hk
 unfold GH Hr JA
 simp only[zQx hk,zQk,A6k _ ht,an,Tk]
 cases hf:e.2.1[k].2.2.2.2.2.2.2.2.1.findIdx? (fun m=>m.1==key)with
 |some i=>
  obtain⟨h1,_⟩:=List.findIdx?_eq_some_iff_getElem.1 hf
  have c:(0:Int)<=(i:Int)/\(i:Int)<(e.2.1[k].2.2.2.2.2.2.2.2.1.length:Int):=by omega
  simp only[Option.isSome_some,cond_true,fx,c,and_self,if_true,zJj,zXz,zQx h1,zQk,Option.map_some]
 |none=>
  simp only[Option.isSome_none,cond_false,Wf hs.fs H.gd.six _ hkey,zQk]
  cases KM e.1 e.2.1[k] key with
  |none=>
   simp only[bne,show((3:Int)==0)=false from rfl,Bool.not_false,cond_true,JU hk hs.fk hs.fw,zQk,Ko,Gw]
  |some v=>
   simp only[bne,show((0:Int)==0)=true from rfl,zXj,cond_false,Zu hk ht.1 (H.rdUp hk),zQk]
   cases O5 e.2.1[k] key v with
   |none=>rfl
   |some t'=>rfl
theorem Zv {k:Nat}{hi:Int}{ce:Bool}(hh:hi<=5):∀(n:Nat) (key:Int) (out:List Int) (e:EG),OkG e->k<e.2.1.length->(∀t,e.2.1[k]? =some t->t.2.2.1=1)->0<=key->key+n=hi+1->out.length<=key.toNat->
 ((Au (fun v=>CN (k,hi,0,0,()) v _ some) (key,ce,e.2.2.2.2,e.1,e.2.1,e.2.2.1,e.2.2.2.1,out,())).bind fun p=>Ap p (fun p=>some
   ((p.2.2.2.2.1,p.1,p.2.1,p.2.2.1,p.2.2.2.1,p.2.2.2.2.2.2.1,p.2.2.2.2.2.2.2.1,[],()):Int×Bool×Int×List (List VV)×List TX×List VM×List VM×List Int×Unit)) fun p=>some (0,p.1,p.2.1,p.2.2.1,p.2.2.2.1,p.2.2.2.2.1,p.2.2.2.2.2.1,p.2.2.2.2.2.2.1,()))=
 some ((Fu k n key out e).1,ce,(Fu k n key out e).2.2.2.2.2.2,(Fu k n key out e).2.2.1,(Fu k n key out e).2.2.2.1,(Fu k n key out e).2.2.2.2.1,(Fu k n key out e).2.2.2.2.2.1,(Fu k n key out e).2.1,()):=by
 intro n
 induction n with
 |zero=>
  intro key out e H hk ha h0 hn ho
  rw[AF]
  have hd:¬key<=hi:=by omega
  simp only[CN,decide_eq_false hd,cond_false,zQk,Ap,Fu]
 |succ n ih=>
  intro key out e H hk ha h0 hn ho
  have hkey:inB key 0 5=true:=Br.2 ⟨h0,by omega⟩
  have hr:=dp H hk hkey ce
  have hs:=H.read (zQx hk) (ha _ (zQx hk)) hkey
  unfold JA at hr
  rw[AF]
  have hd:key<=hi:=by omega
  simp only[CN,decide_eq_true hd,cond_true,hr,zQk,Fu]
  cases hc:(Hr e k key).2.1==0
  ·simp only[bne,hc,Bool.not_false,cond_true,zQk,Ap,cond_false]
  ·have hc':(Hr e k key).2.1=0:=by simpa using hc
   obtain⟨t',ht1,ht2,ht3⟩:=hs.2.1 hc'
   have hlen:(out++[(Hr e k key).1]).length<=4398046511104:=by
    have:key.toNat<=5:=by omega
    simp;omega
   have hw:IntKind.i64.wrap (key+1)=key+1:=Bn (by omega) (by omega)
   simp only[bne,hc,zXj,cond_false,hlen,if_true,zQk,hw,cond_true]
   exact ih (key+1) (out++[(Hr e k key).1]) (Hr e k key).2.2 hs.1 (by rw[hs.2.2];exact hk) (fun t ht=>by rw[ht1]at ht;obtain rfl:t'=t:=(by simpa using ht);exact ht2) (by omega) (by omega) (by simp;omega)
theorem SD {e:EG}(H:OkG e){k:Nat}(hk:k<e.2.1.length)(ha:e.2.1[k].2.2.1=1){lo hi:Int}(h0:0<=lo)(h1:lo<=hi+1)(h2:hi<=5)(ce:Bool):
 GG (k,lo,hi,JA ce e)=some ((Fu k (hi-lo+1).toNat lo [] e).1,ce,(Fu k (hi-lo+1).toNat lo [] e).2.2.2.2.2.2,(Fu k (hi-lo+1).toNat lo [] e).2.2.1,(Fu k (hi-lo+1).toNat lo [] e).2.2.2.1,(Fu k (hi-lo+1).toNat lo [] e).2.2.2.2.1,(Fu k (hi-lo+1).toNat lo [] e).2.2.2.2.2.1,(Fu k (hi-lo+1).toNat lo [] e).2.1,()):=
 Zv h2 (hi-lo+1).toNat lo [] e H hk (fun t ht=>by rw[zQx hk]at ht;obtain rfl:e.2.1[k]=t:=(by simpa using ht);exact ha) h0 (by omega) (by simp)
end Go.Ab
end
section
namespace Go.Ab
theorem TT {α:Type}[DecidableEq α]:∀(a b:List α),a.Nodup->(∀x∈a,x∈b)->a.length<=b.length
 |[],b,_,_=>Nat.zero_le _
 |x::a,b,hn,hs=>by
  rw[List.nodup_cons]at hn
  have hx:=hs x (zKj ..)
  have hlen:=(List.perm_cons_erase hx).length_eq
  have:=TT a (b.erase x) hn.2 (fun y hy=>(List.mem_erase_of_ne (fun e=>hn.1 (by rw[<-e];exact hy))).2 (hs y (List.mem_cons_of_mem _ hy)))
  simp only[zXk]at hlen ⊢
  omega
theorem Agi (a b:Int):∃n:Int,Bs (a,b,())=some (n,())/\decide (n<0)=decide (a<b)/\(n==0)=(a==b):=by
 refine⟨_,ZG a b,?_,?_⟩
 ·by_cases h:a<b
  ·simp[h]
  ·by_cases h2:a>b<;>simp[h,h2]
 ·by_cases h:a<b
  ·simp[h];omega
  ·by_cases h2:a>b
   ·simp[h,h2];omega
   ·have:a=b:=by omega
    simp[this]
theorem RA {α:Type}{f:α->Int}{l:List α}(h:J6 f l)(t:Int):∀i j (hij:i<=j) (hj:j<l.length),(fun x=>decide (f x<t)) l[j]=true->(fun x=>decide (f x<t)) (l[i]'(by omega))=true:=by
 intro i j hij hj h1
 simp only[decide_eq_true_eq]at*
 by_cases e:i=j
 ·subst e;exact h1
 ·have:f l[i]<f l[j]:=List.pairwise_iff_getElem.1 h i j (by omega) hj (by omega)
  omega
def Fs {α:Type}(f:α->Int)(l:List α)(t:Int):Bool:=Im (fun x=>f x==t) (l.dropWhile fun x=>decide (f x<t))
theorem MA {α:Type}{f:α->Int}{l:List α}{m:α}(h:Fs f l (f m)=false):CZ f l m=(l.takeWhile fun x=>decide (f x<f m))++m::l.dropWhile fun x=>decide (f x<f m):=by
 unfold Fs at h
 unfold CZ
 cases hd:l.dropWhile fun x=>decide (f x<f m)with
 |nil=>rfl
 |cons x r=>
  rw[hd]at h
  simp only[Im,beq_eq_false_iff_ne,ne_eq]at h
  simp only[h,if_false]
theorem Mz {α:Type}{f:α->Int}{l:List α}{m:α}(h:Fs f l (f m)=true):∃x,l[(l.takeWhile fun x=>decide (f x<f m)).length]? =some x/\f x=f m/\CZ f l m=l.set (l.takeWhile fun x=>decide (f x<f m)).length m:=by
 unfold Fs at h
 unfold CZ
 have e:l.takeWhile (fun x=>decide (f x<f m))++l.dropWhile (fun x=>decide (f x<f m))=l:=List.takeWhile_append_dropWhile
 cases hd:l.dropWhile fun x=>decide (f x<f m)with
 |nil=>rw[hd]at h;cases h
 |cons x r=>
  rw[hd]at h e
  simp only[Im,beq_iff_eq]at h
  generalize l.takeWhile (fun x=>decide (f x<f m))=a at e ⊢
  subst e
  exact⟨x,by simp,h,by simp[h]⟩
theorem Q4 {α:Type}{f:α->Int}{l:List α}(hu:J6 f l)(t:Int):Fs f l t=true↔∃x∈l,f x=t:=by
 unfold Fs
 have e:l.takeWhile (fun x=>decide (f x<t))++l.dropWhile (fun x=>decide (f x<t))=l:=List.takeWhile_append_dropWhile
 have hd:=OP hu t
 have hud:J6 f (l.dropWhile fun x=>decide (f x<t)):=hu.sublist (List.dropWhile_sublist _)
 have htk:∀y∈(l.takeWhile fun x=>decide (f x<t)),f y<t:=fun y hy=>by
  have:=List.all_takeWhile (l:=l) (p:=fun x=>decide (f x<t))
  have:=List.all_eq_true.1 this y hy
  simpa using this
 have hm:∀x,x∈l↔x∈(l.takeWhile fun x=>decide (f x<t))\/x∈(l.dropWhile fun x=>decide (f x<t)):=fun x=>by rw[<-List.mem_append,e]
 cases hdw:l.dropWhile fun x=>decide (f x<t)with
 |nil=>
  rw[hdw]at hm
  simp only[Im,Bool.false_eq_true,false_iff]
  rintro⟨x,hx,hxt⟩
  rcases(hm x).1 hx with h|h
  ·have:=htk x h;omega
  ·cases h
 |cons y r=>
  rw[hdw]at hm hud
  simp only[Im,beq_iff_eq]
  constructor
  ·intro h;exact⟨y,(hm y).2 (.inr (zKj ..)),h⟩
  ·rintro⟨x,hx,hxt⟩
   rcases(hm x).1 hx with h|h
   ·have:=htk x h;omega
   ·have hy:t<=f y:=hd y (by rw[hdw];exact zKj ..)
    rcases List.mem_cons.1 h with rfl|h
    ·exact hxt
    ·have:=(List.pairwise_cons.1 hud).1 x h;omega
theorem Zz {lk:List VM}(hl:lk.length<=1048576)(key:Int):Hz (lk,key,())=some (Df lk key,()):=by
 unfold Hz Df
 simp only[NR hl (some key,()) (p:=fun m=>m.1==key) (fun x _=>by simp[I1]),zQk,A81,OH]
 cases hf:lk.findIdx? (fun m=>m.1==key)with
 |none=>rfl
 |some i=>
  obtain⟨h1,_⟩:=List.findIdx?_eq_some_iff_getElem.1 hf
  simp only[Option.isNone_some,cond_false,fx,Ai h1,zQk,zQx h1]
theorem Zw {wt:List VM}(hl:wt.length<=1048576)(hv:Ef (wt,())=some (true,()))(hu:J6 (·.1) wt){a b:Int}(ha:inB a 1 9=true)(hb:inB b 1 9=true)(hab:a≠b):
 Hw (wt,a,b,())=some (true,CZ (·.1) wt (a,b,()),()):=by
 have hbs:Bw (wt,a,(),())=some (((wt.takeWhile fun x=>decide (x.1<a)).length:Int),Fs (fun x:VM=>x.1) wt a,()):=Pp hl a (p:=fun x=>decide (x.1<a)) (q:=fun x=>x.1==a) (RA (f:=fun x:VM=>x.1) hu a) (fun x _=>by
  obtain⟨n,e1,e2,e3⟩:=Agi x.1 a
  exact⟨n,by simp only[Hx,e1,zQk],e2,e3⟩)
 have hab':(a==b)=false:=by simpa using hab
 unfold Hw
 simp only[SG hl,hv,M9,ha,hb,hab',zQk,zXj,cond_false]
 erw [hbs]
 simp only[zQk]
 cases hh:Fs (fun x:VM=>x.1) wt a
 ·simp only[Bool.not_false,cond_true,G8]
  erw [Pa (by omega) _ _]
  rw[MA (m:=(a,b,())) hh]
  rfl
 ·obtain⟨x,e1,e2,e3⟩:=Mz (m:=(a,b,())) hh
  rw[e3]
  simp only[zXj,cond_false]
  have hlt:=(zQj.1 e1).1
  have c:(0:Int)<=(((wt.takeWhile fun x=>decide (x.1<a)).length:Nat):Int)/\(((wt.takeWhile fun x=>decide (x.1<a)).length:Nat):Int)<((wt.length:Nat):Int):=⟨by omega,by simpa using hlt⟩
  simp only[c,and_self,if_true,zJj,zXz]
  erw [e1]
  simp only[zQk,show x.1=a from e2]
theorem A6r {lk:List VM}(hl:lk.length<=1048576)(hv:Fd (lk,())=some (true,()))(hu:J6 (·.1) lk){key id:Int}(hk:inB key 0 5=true)(hi:inB id 1 9=true)(ho:Df lk key=0\/Df lk key=id)(hpos:∀m∈lk,m.2.1≠0):
 FW (lk,key,id,())=some (true,CZ (·.1) lk (key,id,()),()):=by
 have hbs:Bd (lk,key,(),())=some (((lk.takeWhile fun x=>decide (x.1<key)).length:Int),Fs (fun x:VM=>x.1) lk key,()):=MD hl key (p:=fun x=>decide (x.1<key)) (q:=fun x=>x.1==key) (RA (f:=fun x:VM=>x.1) hu key) (fun x _=>by
  obtain⟨n,e1,e2,e3⟩:=Agi x.1 key
  exact⟨n,by simp only[EE,e1,zQk],e2,e3⟩)
 unfold FW
 simp only[ZH hl,hv,M9,P3,hk,hi,zQk,zXj,cond_false]
 erw [hbs]
 simp only[zQk]
 cases hh:Fs (fun x:VM=>x.1) lk key
 ·simp only[cond_false,G9]
  erw [Pa (by omega) _ _]
  rw[MA (m:=(key,id,())) hh]
  rfl
 ·obtain⟨x,e1,e2,e3⟩:=Mz (m:=(key,id,())) hh
  obtain⟨hlt,e4⟩:=zQj.1 e1
  have hx:x∈lk:=by rw[<-e4];exact zQz hlt
  have e2':x.1=key:=e2
  have hown:Df lk key=x.2.1:=by
   unfold Df
   cases hf:lk.find? (fun m=>m.1==key)with
   |none=>exact absurd (List.find?_eq_none.1 hf x hx) (by simp[e2'])
   |some y=>
    have h1:=List.find?_some hf
    have h2:=List.mem_of_find?_eq_some hf
    simp only[beq_iff_eq]at h1
    obtain⟨i,hi,rfl⟩:=zJz h2
    obtain⟨j,hj,rfl⟩:=zJz hx
    by_cases hij:i=j
    ·subst hij;rfl
    ·rcases Nat.lt_or_gt_of_ne hij with h|h
     ·have:=List.pairwise_iff_getElem.1 hu i j hi hj h;simp only at this;omega
     ·have:=List.pairwise_iff_getElem.1 hu j i hj hi h;simp only at this;omega
  have hxi:x.2.1=id:=by
   rcases ho with h|h
   ·exact absurd (hown.symm.trans h) (hpos x hx)
   ·exact hown.symm.trans h
  have hxe:x=(key,id,()):=Prod.ext e2' (Prod.ext hxi rfl)
  have hse:lk.set (lk.takeWhile fun x=>decide (x.1<key)).length (key,id,())=lk:=by
   apply List.ext_getElem?
   intro i
   rw[List.getElem?_set]
   split
   ·rename_i h
    subst h
    simp only at e1
    simp only[hlt,if_true,e1,hxe]
   ·rfl
  rw[e3]
  simp only[cond_true]
  rw[hse]
  have e5:lAt lk (((lk.takeWhile fun x=>decide (x.1<key)).length:Nat):Int)=some x:=by
   rw[Ai (by simpa using hlt)]
   simpa using e4
  rw[e5]
  simp only[zQk,hxi,beq_self_eq_true]
end Go.Ab
end
section
namespace Go.Ab
theorem OkG.ltst {e:EG}(H:OkG e){key:Int}(hkey:inB key 0 5=true):∃(n:Nat) (hn:n<e.1.length) (v:VV),key=(n:Int)/\0<e.1[n].length/\e.1[n].length<=50/\e.1[n][e.1[n].length-1]? =some v/\Ff e.1 key=some v/\lAt e.1 key=some e.1[n]/\v∈e.1[n]:=by
 obtain⟨n,hn,e1,e2,e3⟩:=Wv H.gd.six hkey
 have hl:=H.gd.ok _ (zQz hn)
 obtain⟨v,hv,_⟩:=((KG _).1 hl.1).2.2
 have hne:e.1[n]≠[]:=by intro h;rw[h]at hv;cases hv
 have hpos:0<e.1[n].length:=List.length_pos_iff.2 hne
 have hv':e.1[n][e.1[n].length-1]? =some v:=by rw[<-List.getLast?_eq_getElem?];exact hv
 refine⟨n,hn,v,e1,hpos,hl.2,hv',?_,e2,List.mem_of_getElem? hv'⟩
 unfold Ff
 rw[e3];exact hv'
theorem N6 {e:EG}(H:OkG e){key:Int}(hkey:inB key 0 5=true):∃v,Ea ((e.1,()),key,())=some (some v,())/\Ff e.1 key=some v:=by
 obtain⟨n,hn,v,e1,e2,e3,e4,e5,e6,e7⟩:=H.ltst hkey
 refine⟨v,?_,e5⟩
 unfold Ea
 have h:lAt e.1[n] ((e.1[n].length:Int)-1)=some v:=by
  rw[show((e.1[n].length:Int)-1)=((e.1[n].length-1:Nat):Int) by omega,Ai (by omega)]
  rw[zQx (by omega)]at e4;exact e4
 simp only[e6,zQk,J5 (by omega:e.1[n].length<9223372036854775808),h]
theorem Tb {e:EG}(H:OkG e){key:Int}(hkey:inB key 0 5=true):∃(n j:Nat) (l:List VV) (v:VV),C8 (key,e.1,())=some (some (n,j),e.1,())/\e.1[n]? =some l/\l[j]? =some v/\Ff e.1 key=some v:=by
 obtain⟨n,hn,v,e1,e2,e3,e4,e5,e6,e7⟩:=H.ltst hkey
 refine⟨n,e.1[n].length-1,e.1[n],v,?_,zQx hn,e4,e5⟩
 unfold C8
 have c1:(0:Int)<=key/\key<(e.1.length:Int):=by omega
 have c2:(0:Int)<=(e.1[n].length:Int)-1/\(e.1[n].length:Int)-1<(e.1[n].length:Int):=by omega
 have hk:key.toNat=n:=by omega
 have hj:((e.1[n].length:Int)-1).toNat=e.1[n].length-1:=by omega
 simp only[c1,and_self,if_true,hk,zJj,zQx hn,zQk,J5 (by omega:e.1[n].length<9223372036854775808),c2,hj]
theorem A6e {e:EG}(H:OkG e)(t:TX){key:Int}(hkey:inB key 0 5=true):
 Fo ((e.1,()),e.2.2.1,(t.1,t.2.1,t.2.2.1,t.2.2.2.1,t.2.2.2.2.1,t.2.2.2.2.2.1,t.2.2.2.2.2.2.1,t.2.2.2.2.2.2.2.1,t.2.2.2.2.2.2.2.2.1,()),key,())=some (GI e.1 e.2.2.1 t key,()):=by
 obtain⟨v,h1,h2⟩:=N6 H hkey
 unfold Fo GI
 simp only[Zz H.small.fk,h1,h2,zQk,crV,Mw,bne]
 generalize (Df e.2.2.1 key==0)=b1
 generalize (Df e.2.2.1 key==t.1)=b2
 generalize (t.2.1==1)=b3
 generalize (t.2.1==2)=b4
 generalize (t.2.1==4)=b5
 generalize decide (v.2.2.1>t.2.2.2.1)=b6
 generalize decide (v.2.2.2.1>t.2.2.2.1)=b7
 cases b1<;>cases b2<;>cases b3<;>cases b4<;>cases b5<;>cases b6<;>cases b7<;>rfl
theorem dy {l:List Int}(hl:l.length<=1048576)(y:Int):CM (l,y,())=some (decide (y∈l),()):=by
 unfold CM HQ
 have e:=DK (B:=fun v=>BN (l,y,(l.length:Int),()) v _ some) hl (p:=fun z=>y==z) (fun i h=>by
  unfold BN
  simp only[Ai h,zQk,decide_eq_true (by omega:(i:Int)<(l.length:Int)),cond_true,Ah h (by omega)]
  cases y==l[i]<;>rfl) (by
  unfold BN
  simp only[Int.lt_irrefl,decide_false,cond_false])
 erw [e]
 simp only[zQk,an,List.findIdx?_isSome]
 congr 2
 rw[Bool.eq_iff_iff]
 simp only[List.any_eq_true,decide_eq_true_eq,beq_iff_eq]
 constructor
 ·rintro⟨x,hx,rfl⟩;exact hx
 ·intro h;exact⟨y,h,rfl⟩
theorem U8 (wt:List VM):∀(n:Nat) (out:List Int) (x:Int),out≠[]->Iz wt n out x≠[]
 |0,out,x,h=>by simpa[Iz]using h
 |n+1,out,x,h=>by
  unfold Iz
  split
  ·exact h
  ·split
   ·simp
   ·exact U8 wt n _ _ (by simp)
theorem Q6 (wt:List VM):∀(n:Nat) (out:List Int) (x:Int),(Iz wt n out x).length<=out.length+n
 |0,out,x=>by simp[Iz]
 |n+1,out,x=>by
  unfold Iz
  split
  ·omega
  ·split
   ·simp
   ·rename_i y _ _
    have:=Q6 wt n (out++[y]) y
    simp at this;omega
theorem Af9 {out:List Int}(hn:out.Nodup)(h:∀x∈out,inB x 1 9=true):out.length<=9:=by
 refine TT out [1,2,3,4,5,6,7,8,9] hn fun x hx=>?_
 have:=Br.1 (h x hx)
 simp only[List.mem_cons,List.not_mem_nil,or_false]
 omega
theorem A8x {wt:List VM}(hl:wt.length<=1048576)(hw:∀m∈wt,inB m.2.1 1 9=true):∀(n:Nat) (out:List Int) (x:Int),out≠[]->out.getLast?=some x->out.Nodup->(∀y∈out,inB y 1 9=true)->10<=out.length+n->
 ((Au (fun v=>EY (wt,()) v _ some) (out,())).bind fun p=>Ap p (fun p=>some ((p.1,()):List Int×Unit)) fun p=>some (p.2.1,()))=some (Iz wt n out x,()):=by
 intro n
 induction n with
 |zero=>
  intro out x h1 h2 h3 h4 h5
  have:=Af9 h3 h4
  omega
 |succ n ih=>
  intro out x h1 h2 h3 h4 h5
  have h9:=Af9 h3 h4
  have hpos:0<out.length:=List.length_pos_iff.2 h1
  have hlast:lAt out ((out.length:Int)-1)=some x:=by
   rw[show((out.length:Int)-1)=((out.length-1:Nat):Int) by omega,Ai (by omega)]
   rw[List.getLast?_eq_getElem?,zQx (by omega)]at h2
   exact h2
  have hix:=NQ hl (some out,()) (p:=fun m=>m.1==x) (fun m _=>by simp only[HZ,zQk,J5 (by omega:out.length<9223372036854775808),hlast])
  rw[AF]
  simp only[EY,hix,zQk,A81]
  unfold Iz Wy
  rw[OH]
  cases hf:wt.findIdx? (fun m=>m.1==x)with
  |none=>simp only[Option.isNone_none,cond_true,zQk,Ap,Option.bind_none,Option.map_none]
  |some i=>
   obtain⟨hi,_⟩:=List.findIdx?_eq_some_iff_getElem.1 hf
   have hlen:(out++[wt[i].2.1]).length<=4398046511104:=by simp;omega
   simp only[Option.isNone_some,cond_false,fx,Ai hi,zQk,dy (by omega:out.length<=1048576),hlen,if_true,zQx hi,Option.map_some]
   by_cases hm:wt[i].2.1∈out
   ·simp only[hm,decide_true,cond_true,zQk,Ap,if_true]
   ·simp only[hm,decide_false,cond_false,zQk,if_false]
    refine ih (out++[wt[i].2.1]) wt[i].2.1 (by simp) (by simp) ?_ ?_ (by simp;omega)
    ·rw[List.nodup_append]
     exact⟨h3,by simp,fun a ha b hb=>by rw[List.mem_singleton.1 hb];rintro rfl;exact hm ha⟩
    ·intro y hy
     rcases List.mem_append.1 hy with h|h
     ·exact h4 y h
     ·rw[List.mem_singleton.1 h];exact hw _ (zQz hi)
theorem ZL {wt:List VM}(h1:∀m∈wt,inB m.1 1 9=true/\inB m.2.1 1 9=true/\m.1≠m.2.1)(h2:J6 (·.1) wt){a b:Int}(ha:inB a 1 9=true)(hb:inB b 1 9=true)(hab:a≠b):NU (CZ (·.1) wt (a,b,())):=by
 refine(K9 _).2 ⟨fun m hm=>?_,My h2 _⟩
 rcases(Jj h2).1 hm with rfl|⟨h,_⟩
 ·exact⟨ha,hb,hab⟩
 ·exact h1 m h
theorem dx {e:EG}(H:OkG e){a b:Int}(ha:inB a 1 9=true)(hb:inB b 1 9=true)(hab:a≠b):GA (e.2.2.2.1,a,b,())=some (Rs e.2.2.2.1 a b,()):=by
 have hl:=H.wtLen
 have hw0:NU e.2.2.2.1:=(K9 _).2 ⟨H.wtA,H.wtU⟩
 have hw1:NU (CZ (·.1) e.2.2.2.1 (a,b,())):=ZL H.wtA H.wtU ha hb hab
 have hpl:(CZ (·.1) e.2.2.2.1 (a,b,())).length<=1048576:=by have:=QR (f:=fun x:VM=>x.1) e.2.2.2.1 (a,b,());omega
 have hs:=Zw (wt:=e.2.2.2.1) (by omega) ((JH (by omega)).trans (by rw[Ax hw0])) H.wtU ha hb hab
 have hc:=A8x (wt:=CZ (·.1) e.2.2.2.1 (a,b,())) hpl (fun m hm=>(((K9 _).1 hw1).1 m hm).2.1) 10 [a] a (by simp) rfl (by simp) (by simpa using ha) (by simp)
 unfold GA Rs
 simp only[hs,zQk,zXj,cond_false]
 unfold Kz
 simp only[JH hpl,Ax hw1,zXj,cond_false,M9,ha,zQk]
 erw [hc]
 simp only[zQk]
 have h1:=U8 (CZ (·.1) e.2.2.2.1 (a,b,())) 10 [a] a (by simp)
 have h2:=Q6 (CZ (·.1) e.2.2.2.1 (a,b,())) 10 [a] a
 generalize Iz (CZ (·.1) e.2.2.2.1 (a,b,())) 10 [a] a=c at h1 h2 ⊢
 have hpos:0<c.length:=List.length_pos_iff.2 h1
 simp only[zXk,List.length_nil]at h2
 have c1:(0:Int)<=(c.length:Int)-1/\(c.length:Int)-1<(c.length:Int):=by omega
 have hj:((c.length:Int)-1).toNat=c.length-1:=by omega
 simp only[J5 (by omega:c.length<9223372036854775808),c1,and_self,if_true,zJj,hj,List.getLast?_eq_getElem?,zQx (by omega:c.length-1<c.length),zQk]
 rfl
end Go.Ab
end
section
namespace Go.Ab
theorem OkG.wrUp {e:EG}(H:OkG e){k:Nat}(hk:k<e.2.1.length):J6 (·.1) e.2.1[k].2.2.2.2.2.2.2.2.1:=
 ((LC _).1 ((DG _).1 (H.txA _ (zQz hk)).1).2.1).2
theorem rR {e:EG}(H:OkG e){k:Nat}(hk:k<e.2.1.length){key:Int}(hkey:inB key 0 5=true)(val:Int):
 C1 (k,key,val,e.2.1,e.1,())=some (e.2.1.set k (Pw e.2.1[k] (mx e.2.1[k].2.2.2.2.1 (Mw (Ff e.1 key))) (CZ (·.1) e.2.1[k].2.2.2.2.2.2.2.2.1 (key,val,()))),e.1,()):=by
 obtain⟨n,j,l,v,h1,h2,h3,h4⟩:=Tb H hkey
 have hw:=(H.smT hk).2
 have hbs:AY (e.2.1[k].2.2.2.2.2.2.2.2.1,key,(),())=some (((e.2.1[k].2.2.2.2.2.2.2.2.1.takeWhile fun x=>decide (x.1<key)).length:Int),Fs (fun x:VM=>x.1) e.2.1[k].2.2.2.2.2.2.2.2.1 key,()):=
  Lh hw key (p:=fun x=>decide (x.1<key)) (q:=fun x=>x.1==key) (RA (f:=fun x:VM=>x.1) (H.wrUp hk) key) (fun x _=>by
   obtain⟨n,e1,e2,e3⟩:=Agi x.1 key
   exact⟨n,by simp only[Dp,e1,zQk],e2,e3⟩)
 unfold C1
 simp only[zQx hk,zQk,hbs,TN hw,h1,h4,Mw]
 cases hh:Fs (fun x:VM=>x.1) e.2.1[k].2.2.2.2.2.2.2.2.1 key
 ·simp only[cond_false,JG hk,zQk,FP]
  erw [Pa (by omega) _ _]
  rw[MA (m:=(key,val,())) hh]
  simp only[zQk,KO,JG hk,h2,h3,List.length_set,and_self,if_true,zQq,(by omega:8<9),Pw]
 ·obtain⟨x,e1,e2,e3⟩:=Mz (m:=(key,val,())) hh
  rw[e3]
  have hlt:=(zQj.1 e1).1
  simp only at e1 hlt e2
  have c:(0:Int)<=(((e.2.1[k].2.2.2.2.2.2.2.2.1.takeWhile fun x=>decide (x.1<key)).length:Nat):Int)/\(((e.2.1[k].2.2.2.2.2.2.2.2.1.takeWhile fun x=>decide (x.1<key)).length:Nat):Int)<((e.2.1[k].2.2.2.2.2.2.2.2.1.length:Nat):Int):=⟨by omega,Int.ofNat_lt.2 hlt⟩
  simp only[cond_true,JG hk,zQk,c,and_self,if_true,zJj,zXz,e1,KO,h2,h3,e2,Pw,List.length_set]
theorem Tl {s:List (List VV)}{lk:List VM}{t:TX}{key:Int}(h:GI s lk t key=1):Df lk key≠0/\Df lk key≠t.1:=by
 unfold GI at h
 cases h1:(Df lk key==0)
 ·cases h2:(Df lk key==t.1)
  ·exact⟨by simpa using h1,by simpa using h2⟩
  ·simp only[h1,h2,Bool.not_false,zXj,Bool.and_false,cond_false,Bool.false_or]at h
   revert h
   cases(t.2.1==2)<;>cases decide (crV (Ff s key)>t.2.2.2.1)<;>cases(t.2.1==4)<;>cases decide (Mw (Ff s key)>t.2.2.2.1)<;>simp
 ·simp only[h1,zXj,Bool.false_and,Bool.and_false,cond_false,Bool.false_or]at h
  revert h
  cases(t.2.1==2)<;>cases decide (crV (Ff s key)>t.2.2.2.1)<;>cases(t.2.1==4)<;>cases decide (Mw (Ff s key)>t.2.2.2.1)<;>simp
theorem Ra {s:List (List VV)}{lk:List VM}{t:TX}{key:Int}(h:GI s lk t key=0)(ht:(t.2.1==1||t.2.1==2)=true):Df lk key=0\/Df lk key=t.1:=by
 unfold GI at h
 cases h1:(Df lk key==0)
 ·cases h2:(Df lk key==t.1)
  ·exfalso
   simp only[h1,h2,Bool.not_false,Bool.and_true,Bool.true_or]at h
   revert h ht
   cases(t.2.1==1)<;>cases(t.2.1==2)<;>simp
  ·exact .inr (by simpa using h2)
 ·exact .inl (by simpa using h1)
theorem ZZ {e:EG}(H:OkG e){key:Int}(h:Df e.2.2.1 key≠0):inB (Df e.2.2.1 key) 1 9=true:=by
 unfold Df at h ⊢
 cases hf:e.2.2.1.find? (fun m=>m.1==key)with
 |none=>rw[hf]at h;exact absurd rfl h
 |some m=>exact(H.lkA m (List.mem_of_find?_eq_some hf)).2
theorem OkG.idIn {e:EG}(H:OkG e){k:Nat}(hk:k<e.2.1.length):inB e.2.1[k].1 1 9=true:=((DG _).1 (H.txA _ (zQz hk)).1).2.2.1
theorem Zs {e:EG}(H:OkG e){k:Nat}(hk:k<e.2.1.length){key:Int}(hkey:inB key 0 5=true)(val:Int)(ce:Bool):
 G4 (k,key,val,JA ce e)=some ((MM e k key val).1,JA ce (MM e k key val).2):=by
 have hs:=H.small
 have hid:=H.idIn hk
 unfold G4 MM JA
 simp only[zQx hk,zQk,A6e H _ hkey,Zz hs.fk]
 cases hc:(GI e.1 e.2.2.1 e.2.1[k] key==1)
 ·simp only[cond_false]
  cases hc0:(GI e.1 e.2.2.1 e.2.1[k] key==0)
  ·simp only[bne,hc0,Bool.not_false,cond_true,JU hk hs.fk hs.fw,zQk,cond_false,Ko,Gw]
  ·have hc0':GI e.1 e.2.2.1 e.2.1[k] key=0:=by simpa using hc0
   simp only[bne,hc0,zXj,cond_false,cond_true,rR H hk hkey,zQk]
   have htl:GB (e.2.1[k].2.1,())=some (e.2.1[k].2.1==1||e.2.1[k].2.1==2,()):=by
    unfold GB
    cases e.2.1[k].2.1==1<;>rfl
   simp only[htl,zQk]
   cases ht:(e.2.1[k].2.1==1||e.2.1[k].2.1==2)
   ·simp only[cond_false]
   ·simp only[cond_true,A6r (lk:=e.2.2.1) hs.fk ((Nv hs.fk).trans (by rw[Ax ((Ot _).2 ⟨H.lkA,H.lkU⟩)])) H.lkU hkey hid (Ra hc0' ht) (fun m hm=>by have:=Br.1 (H.lkA m hm).2;omega),zQk]
 ·have hc':GI e.1 e.2.2.1 e.2.1[k] key=1:=by simpa using hc
  obtain⟨n0,n1⟩:=Tl hc'
  have ho:=ZZ H n0
  have hab:e.2.1[k].1≠Df e.2.2.1 key:=fun h=>n1 h.symm
  simp only[cond_true,dx H hid ho hab,zQk]
  cases Rs e.2.2.2.1 e.2.1[k].1 (Df e.2.2.1 key)
  ·simp only[cond_false,Zw hs.fw ((JH hs.fw).trans (by rw[Ax ((K9 _).2 ⟨H.wtA,H.wtU⟩)])) H.wtU hid ho hab,zQk,hc']
  ·simp only[cond_true,JU hk hs.fk hs.fw,zQk,Ko,Gw]
end Go.Ab
end
section
namespace Go.Ab
abbrev tup (t:TX):TX:=(t.1,t.2.1,t.2.2.1,t.2.2.2.1,t.2.2.2.2.1,t.2.2.2.2.2.1,t.2.2.2.2.2.2.1,t.2.2.2.2.2.2.2.1,t.2.2.2.2.2.2.2.2.1,())
theorem OkG.rdIn {e:EG}(H:OkG e){k:Nat}(hk:k<e.2.1.length):Oq e.2.1[k].2.2.2.2.2.2.2.1:=((DG _).1 (H.txA _ (zQz hk)).1).1
theorem OkG.wrIn {e:EG}(H:OkG e){k:Nat}(hk:k<e.2.1.length):∀m∈e.2.1[k].2.2.2.2.2.2.2.2.1,inB m.1 0 5=true:=fun m hm=>
 (((LC _).1 ((DG _).1 (H.txA _ (zQz hk)).1).2.1).1 m hm).1
theorem A6g {e:EG}(H:OkG e){k:Nat}(hk:k<e.2.1.length):EZ ((e.1,()),tup e.2.1[k],())=some (rlP e.1 e.2.1[k],()):=by
 have hsm:=H.smT hk
 have hwr:=H.wrIn hk
 unfold EZ rlP
 simp only
 generalize hr:e.2.1[k].2.2.2.2.2.2.2.1=rd at*
 generalize hw:e.2.1[k].2.2.2.2.2.2.2.2.1=wr at*
 have hr1:rd.length<=1048576:=by have:=(H.smT hk).1;rw[hr]at this;exact this
 have hw1:wr.length<=1048576:=by have:=(H.smT hk).2;rw[hw]at this;exact this
 refine GQ (l:=rd) (f:=fun n m=>mx n m.2.1) (X:=fun n=>(Au (fun v=>C2 (wr,(wr.length:Int),e.1,()) v _ some) (n,0,())).bind fun p=>some (p.1,())) 0 (fun i h n=>?_) (fun n=>⟨(n,()),?_,rfl⟩) ?_
 ·unfold CF
  simp only[Ai h,zQk]
  rw[decide_eq_true (by omega),Ah h (by omega)];rfl
 ·unfold CF
  simp only
  rw[decide_eq_false (by omega)];rfl
 ·refine GQ (l:=wr) (f:=fun n m=>mx n (Mw (Ff e.1 m.1))) (X:=fun n=>some (n,())) _ (fun i h n=>?_) (fun n=>⟨(n,()),?_,rfl⟩) rfl
  ·obtain⟨v,h1,h2⟩:=N6 H (hwr _ (zQz h))
   unfold C2
   simp only[Ai h,zQk,h1,h2,Mw]
   rw[decide_eq_true (by omega),Ah h (by omega)];rfl
  ·unfold C2
   simp only
   rw[decide_eq_false (by omega)];rfl
theorem TL {e:EG}(H:OkG e){k:Nat}(hk:k<e.2.1.length)(ha:e.2.1[k].2.2.1=1)(st:Int):Fg ((e.1,()),tup e.2.1[k],st,())=some (loP e.1 e.2.1[k],hiP e.1 e.2.1[k] st,()):=by
 unfold Fg
 simp only[A6g H hk,A6h H.small.fs H.gd.six _ (H.smT hk) (H.rdIn hk) ((H.txA _ (zQz hk)).2.2.2 ha),zQk,loP,hiP]
theorem dv {e:EG}(H:OkG e){k:Nat}(hk:k<e.2.1.length):Fh ((e.1,()),tup e.2.1[k],())=some (OG e.1 e.2.1[k],()):=by
 unfold Fh OG
 have hc:∀x∈e.2.1[k].2.2.2.2.2.2.2.2.1,Di (x,some (e.1,()),())=some ((match e.1[x.1.toNat]? with|some l=>decide (l.length>=50)|none=>false),()):=fun x hx=>by
  obtain⟨n,hn,e1,e2,e3⟩:=Wv H.gd.six (H.wrIn hk x hx)
  have h50:=(H.gd.ok _ (zQz hn)).2
  unfold Di
  simp only[zQk,e2,e3]
  congr 2
  rw[Bool.eq_iff_iff,beq_iff_eq,decide_eq_true_eq];omega
 simp only[Ma (H.smT hk).2 (some (e.1,()),()) hc,zQk]<;>rfl
theorem A6n {e:EG}(H:OkG e){k:Nat}(hk:k<e.2.1.length):F0 ((e.1,()),tup e.2.1[k],())=some (Nq e.1 e.2.1[k],()):=by
 unfold F0 Nq
 have hc:∀x∈e.2.1[k].2.2.2.2.2.2.2.2.1,Cn (x,some (e.1,()),some (tup e.2.1[k]),())=some (decide (crV (Ff e.1 x.1)>e.2.1[k].2.2.2.1),()):=fun x hx=>by
  obtain⟨v,h1,h2⟩:=N6 H (H.wrIn hk x hx)
  unfold Cn
  simp only[zQk,h1,h2,crV]
 simp only[L7 (H.smT hk).2 (some (e.1,()),some (tup e.2.1[k]),()) hc,zQk]
 cases e.2.1[k].2.2.2.2.2.2.2.2.1.any fun x=>decide (crV (Ff e.1 x.1)>e.2.1[k].2.2.2.1)<;>cases e.2.1[k].2.1==2<;>cases e.2.1[k].2.1==4<;>rfl
theorem Aex {s:List (List VV)}{n:Nat}(h:stOK s n)(hn:n<=1000){m:VM}(hm:inB m.1 0 5=true)(hx:I6 s m)(st:Int):
 ∃(a j:Nat) (l:List VV) (v:VV),GW (m.1,m.2.1,s,())=some (some (a,j),s,())/\s[a]? =some l/\l[j]? =some v/\Nz st s m=s.set a (l.set j (T9 st v)):=by
 obtain⟨k,hk,hlt,l,e1,e2,e3,hl⟩:=KV h.1 hm
 obtain⟨l',j,x1,x2⟩:=hx
 rw[e3]at x1;obtain rfl:l=l':=(by simpa using x1)
 have hj:=R3 x2
 have hsm:=(h.small hn).2 _ hl
 refine⟨k,j,l,l[j],?_,e1,zQx hj,?_⟩
 ·unfold GW
  have c1:(0:Int)<=m.1/\m.1<(s.length:Int):=by omega
  have hkn:m.1.toNat=k:=by omega
  have hjlt:¬((j:Int)<0):=by omega
  have c2:(0:Int)<=(j:Int)/\(j:Int)<(l.length:Int):=by omega
  simp only[c1,and_self,if_true,hkn,zJj,e1,zQk,SF hsm,x2,fx,decide_eq_false hjlt,cond_false,c2,zXz]
 ·unfold Nz
  have hkn:m.1.toNat=k:=by omega
  simp only[e3,x2,zQx hj,hkn]
theorem Alm {s:List (List VV)}{n:Nat}(h:stOK s n)(hn:n<=1000){m:VM}(hm:inB m.1 0 5=true):
 ∃(a:Nat) (l:List VV) (v:VV),m.1=(a:Int)/\a<s.length/\C8 (m.1,s,())=some (some (a,l.length-1),s,())/\s[a]? =some l/\l[l.length-1]? =some v/\l.length<=50+n/\Ki s m=some l:=by
 obtain⟨k,hk,hlt,l,e1,e2,e3,hl⟩:=KV h.1 hm
 have h5:=h.2 l hl
 refine⟨k,l,l[l.length-1],hk,hlt,?_,e1,zQx (by omega),h5.2,e3⟩
 unfold C8
 have c1:(0:Int)<=m.1/\m.1<(s.length:Int):=by omega
 have c2:(0:Int)<=(l.length:Int)-1/\(l.length:Int)-1<(l.length:Int):=by omega
 have hkn:m.1.toNat=k:=by omega
 have hj:((l.length:Int)-1).toNat=l.length-1:=by omega
 simp only[c1,and_self,if_true,hkn,zJj,e1,zQk,J5 (by omega:l.length<9223372036854775808),c2,hj]
theorem Tc {e:EG}(H:OkG e){k:Nat}(hk:k<e.2.1.length)(ha:e.2.1[k].2.2.1=1)(st:Int)(ce:Bool)(st':Int):
 Ek (k,st,ce,st',e.1,e.2.1,e.2.2.1,e.2.2.2.1,())=some (ce,st',Qy e.1 e.2.1[k] st (hiP e.1 e.2.1[k] st),e.2.1.set k (Nu e.2.1[k] (loP e.1 e.2.1[k]) (hiP e.1 e.2.1[k] st) st),e.2.2.1,e.2.2.2.1,()):=by
 have hsm:=H.smT hk
 have hwr:=H.wrIn hk
 have hrd:=H.rdIn hk
 have hx:=(H.txA _ (zQz hk)).2.2.2 ha
 have hwl:=SI ((DG _).1 (H.txA _ (zQz hk)).1).2.1
 unfold Ek Qy
 simp only[zQx hk,zQk,TL H hk ha,JG hk,KO,List.length_set,ge_iff_le,Nu]
 generalize loP e.1 e.2.1[k]=lo
 generalize hiP e.1 e.2.1[k] st=hi
 have hk':∀t:TX,k<(e.2.1.set k t).length:=fun t=>by simpa using hk
 obtain⟨f1,f2⟩:=Nk (l:=e.2.1[k].2.2.2.2.2.2.2.1) (f:=Nz st) (Inv:=fun s i=>stOK s 0/\∀m∈e.2.1[k].2.2.2.2.2.2.2.1,I6 s m) (n0:=e.1)
  (B:=fun v=>Cw (k,st,k,(e.2.1[k].2.2.2.2.2.2.2.1.length:Int),ce,st',e.2.1.set k (e.2.1[k].1,e.2.1[k].2.1,2,e.2.1[k].2.2.2.1,lo,hi,st,e.2.1[k].2.2.2.2.2.2.2.1,e.2.1[k].2.2.2.2.2.2.2.2.1,()),e.2.2.1,e.2.2.2.1,()) v _ some)
  (fun i h s hI=>by
    obtain⟨_,hm,_⟩:=hrd i h
    obtain⟨a,j,l,v,h1,h2,h3,h4⟩:=Aex hI.1 (by omega) hm (hI.2 _ (zQz h)) st
    have c:(0:Int)<=(i:Int)/\(i:Int)<(e.2.1[k].2.2.2.2.2.2.2.1.length:Int):=by omega
    unfold Cw
    simp only[decide_eq_true c.2,decide_true,cond_true,JG hk,zQk,c,and_self,if_true,zJj,zXz,zQx h,h1,h2,h3,Ah h (by have:=hsm.1;omega),h4,T9])
  (fun i h s hI=>⟨Ts st hI.1,fun m hm=>R4 st (hI.2 m hm)⟩)
  ⟨H.st.stOK,hx⟩
  (fun s=>by
    unfold Cw
    simp only[Int.lt_irrefl,decide_false,cond_false])
 erw [f1]
 simp only[zQk,JG hk]
 obtain⟨g1,g2⟩:=Nk (l:=e.2.1[k].2.2.2.2.2.2.2.2.1) (f:=Qa st e.2.1[k].1 hi) (Inv:=fun s i=>stOK s i) (n0:=e.2.1[k].2.2.2.2.2.2.2.1.foldl (Nz st) e.1)
  (B:=fun v=>Cv (k,st,k,(e.2.1[k].2.2.2.2.2.2.2.2.1.length:Int),ce,st',e.2.1.set k (e.2.1[k].1,e.2.1[k].2.1,2,e.2.1[k].2.2.2.1,lo,hi,st,e.2.1[k].2.2.2.2.2.2.2.1,e.2.1[k].2.2.2.2.2.2.2.2.1,()),e.2.2.1,e.2.2.2.1,()) v _ some)
  (fun i h s hI=>by
    obtain⟨a,l,v,h0,h5,h1,h2,h3,h4,h6⟩:=Alm hI (by omega) (hwr _ (zQz h))
    have c:(0:Int)<=(i:Int)/\(i:Int)<(e.2.1[k].2.2.2.2.2.2.2.2.1.length:Int):=by omega
    have c3:(0:Int)<=(a:Int)/\(a:Int)<(s.length:Int):=by omega
    have c4:l.length+1<=879609302220:=by omega
    rw[h0]at h1
    unfold Cv Qa
    simp only[decide_eq_true c.2,decide_true,cond_true,JG hk,zQk,c,and_self,if_true,zJj,zXz,zQx h,h0,h1,h2,h3,h6,Ah h (by have:=hsm.2;omega),ta,List.length_set,c3.1,c3.2,true_and,JG h5,KO,zJk,zXk,List.length_nil,c4,zQq,Nat.zero_lt_one])
  (fun i h s hI=>Tq st _ hi hI)
  f2.1
  (fun s=>by
    unfold Cv
    simp only[Int.lt_irrefl,decide_false,cond_false])
 erw [g1]
 rfl
end Go.Ab
end
section
namespace Go.Ab
theorem We {e:EG}(H:OkG e){k:Nat}(hk:k<e.2.1.length)(ha:e.2.1[k].2.2.1=1)(ce:Bool):
 Fq (k,JA ce e)=some ((Jt ce e k).1,JA ce (Jt ce e k).2):=by
 have hs:=H.small
 have hst0:=H.stamp0
 have hst1:=H.stamp
 have hkset:∀t,k<(e.2.1.set k t).length:=fun t=>by simpa using hk
 unfold Fq Jt JA
 simp only[zQx hk,zQk,A6n H hk,bne]
 cases hc:(Nq e.1 e.2.1[k]==0)
 ·simp only[Bool.not_false,cond_true,JU hk hs.fk hs.fw,zQk,Ko,Gw]
 ·simp only[zXj,cond_false]
  cases h9:(e.2.2.2.2==999)
  ·have hw:IntKind.i64.wrap (e.2.2.2.2+1)=e.2.2.2.2+1:=Bn (by omega) (by omega)
   simp only[cond_false,hw,TL H hk ha,zQk,dv H hk,Tc H hk ha,JU hk hs.fk hs.fw,TM (hkset _) hs.fk hs.fw]
   cases ce
   ·simp only[cond_false,Bool.false_and,Bool.false_or]
    cases OG e.1 e.2.1[k]
    ·simp[Ko,Nu]
    ·simp only[cond_true,Ko,Gw,zQk]
   ·simp only[cond_true,Bool.true_and]
    cases decide (loP e.1 e.2.1[k]>=hiP e.1 e.2.1[k] (e.2.2.2.2+1))
    ·simp only[cond_false,Bool.false_or]
     cases OG e.1 e.2.1[k]
     ·simp[Ko,Nu]
     ·simp only[cond_true,Ko,Gw,zQk]
    ·simp only[cond_true,Bool.true_or,Ko,Gw,zQk]
  ·simp only[cond_true]
theorem ZR {id sc st:Int}(hid:inB id 1 9=true)(hsc:inB sc 1 4=true)(hst:inB st 0 999=true):Md (Nx id sc st)=true:=by
 rw[DG]
 refine⟨fun i hi=>absurd hi (Nat.not_lt_zero _),fun i hi=>absurd hi (Nat.not_lt_zero _),hid,hsc,hst,by show inB 1 1 3=true;decide,by show inB 0 0 999=true;decide,by show inB 1000 1 1000=true;decide,?_,by show inB 0 0 999=true;decide,Nat.zero_le _⟩
 show(1:Int)=2↔(0:Int)>0
 omega
theorem aO {e:EG}(H:OkG e)(id:Int):(e.2.1.any fun t=>t.1==id)=Fs (fun t:TX=>t.1) e.2.1 id:=by
 rw[Bool.eq_iff_iff,Q4 H.txU,List.any_eq_true]
 simp only[beq_iff_eq]
theorem ZE {e:EG}(H:OkG e){id sc:Int}(hid:inB id 1 9=true)(hsc:inB sc 1 4=true)(a b c d:Int)(ce:Bool):
 G5 (a,id,sc,b,c,d,JA ce e)=some ((LM e id sc).1,ce,(LM e id sc).2.2.2.2.2,(LM e id sc).2.1,(LM e id sc).2.2.2.1,(LM e id sc).2.2.2.2.1,(LM e id sc).2.2.1,()):=by
 have hs:=H.small
 have hst:inB e.2.2.2.2 0 999=true:=Br.2 ⟨H.stamp0,H.stamp⟩
 have hT:okT id sc 1 e.2.2.2.2 0 1000 0 [] []=true:=ZR hid hsc hst
 have hbs:Bb (e.2.1,id,(),())=some (((e.2.1.takeWhile fun x=>decide (x.1<id)).length:Int),Fs (fun x:TX=>x.1) e.2.1 id,()):=
  Mc hs.fl id (p:=fun x=>decide (x.1<id)) (q:=fun x=>x.1==id) (RA (f:=fun x:TX=>x.1) H.txU id) (fun x _=>by
   obtain⟨n,e1,e2,e3⟩:=Agi x.1 id
   exact⟨n,by simp only[El,e1,zQk],e2,e3⟩)
 have h6:((e.2.1.length:Int)==6)=(e.2.1.length==6):=by rw[Bool.eq_iff_iff,beq_iff_eq,beq_iff_eq];omega
 unfold G5 LM JA
 simp only[hbs,zQk,aO H,h6]
 cases hh:Fs (fun x:TX=>x.1) e.2.1 id
 ·simp only[cond_false,Bool.false_or]
  cases h7:(e.2.1.length==6)
  ·have hn:G0 (id,sc,e.2.2.2.2,())=some (id,sc,1,e.2.2.2.2,0,1000,0,true,()):=by
    unfold G0
    simp only[qA (rd:=[]) (wr:=[]) (Nat.zero_le _) (Nat.zero_le _),hT,zQk,zXj,cond_false]
   simp only[cond_false,hn,zQk,DU]
   erw [Pa (by have:=hs.fl;omega) _ _]
   rw[MA (m:=Nx id sc e.2.2.2.2) hh]
   rfl
  ·simp only[cond_true]
 ·simp only[cond_true,Bool.true_or]
theorem A8s {e:EG}(H:OkG e)(id:Int):(EC e.2.1 id=true/\∃(k:Nat) (hk:k<e.2.1.length),e.2.1.findIdx? (fun t=>t.1==id)=some k/\e.2.1[k].2.2.1=1/\e.2.1[k].1=id)\/EC e.2.1 id=false:=by
 cases h:EC e.2.1 id with
 |false=>exact .inr rfl
 |true=>
  left
  refine⟨rfl,?_⟩
  obtain⟨t,ht,h1,h2⟩:=(KY H.txU id).1 h
  obtain⟨k,hk,rfl⟩:=zJz ht
  exact⟨k,hk,by rw[<-h1];exact qV H.txU hk,h2,h1⟩
def ZK (ce:Bool)(r:Int×List Int×EG):Int×Bool×Int×List (List VV)×List TX×List VM×List VM×List Int×Unit:=
 (r.1,ce,r.2.2.2.2.2.2,r.2.2.1,r.2.2.2.1,r.2.2.2.2.1,r.2.2.2.2.2.1,r.2.1,())
theorem SJ (o:OPt):N9 o=true↔inB o.1 1 6=true/\inB o.2.1 1 9=true/\(bif o.1==1 then inB o.2.2.1 1 4 else o.2.2.1==0)=true/\(bif o.1==2||o.1==3||o.1==4 then inB o.2.2.2.1 0 5 else o.2.2.2.1==0)=true/\(bif o.1==4 then inB o.2.2.2.2.1 o.2.2.2.1 5 else o.2.2.2.2.1==0)=true/\(bif o.1==3 then inB o.2.2.2.2.2.1 (-1) 99 else o.2.2.2.2.2.1==0)=true:=by
 unfold N9
 simp only[zJq,and_assoc]
theorem dn {e:EG}(H:OkG e){o:OPt}(ho:N9 o=true)(ce:Bool):
 GF (o.1,o.2.1,o.2.2.1,o.2.2.2.1,o.2.2.2.2.1,o.2.2.2.2.2.1,JA ce e)=some (ZK ce (JR ce e o)):=by
 have hs:=H.small
 obtain⟨o1,o2,o3,o4,o5,o6⟩:=(SJ o).1 ho
 unfold GF JR
 cases h1:(o.1==1)
 ·simp only[cond_false]
  have hact:=A8s H o.2.1
  rcases hact with⟨ha,k,hk,hf,h2,h3⟩|ha
  ·have hw:=H.wake o.2.1
   have hc:(0:Int)<=(k:Int)/\(k:Int)<(e.2.1.length:Int):=by omega
   have hwk:=dm (l:=e.2.2.2.1) hs.fw o
   simp only[JA,P4 hs.fl,ha,zXj,cond_false,cond_true,ZC hs.fl,hf,fx,zQk,hc,and_self,if_true,SG hs.fw,zJj,zXz]
   erw [hwk]
   simp only[zQk]
   have hE:∀{e':EG},(ce,e'.2.2.2.2,e'.1,e'.2.1,e'.2.2.1,e'.2.2.2.1,())=JA ce e':=rfl
   have kR:=SD hw (k:=k) hk h2 (lo:=o.2.2.2.1) (hi:=o.2.2.2.1) (ce:=ce)
   have kS:=SD hw (k:=k) hk h2 (lo:=o.2.2.2.1) (hi:=o.2.2.2.2.1) (ce:=ce)
   have kW:=fun h=>Zs hw (k:=k) hk (key:=o.2.2.2.1) h o.2.2.2.2.2.1 ce
   have kC:=We hw (k:=k) hk h2 ce
   simp only[JA]at kR kS kW kC
   cases h4:(o.1==2)
   ·simp only[cond_false]
    cases h5:(o.1==4)
    ·simp only[cond_false]
     cases h6:(o.1==3)
     ·simp only[cond_false]
      cases h7:(o.1==5)
      ·simp only[cond_false,JU (wt:=wkW e.2.2.2.1 o.2.1) hk hs.fk hw.small.fw,zQk,zQx hk,ZK,Ko,Gw]
      ·simp only[cond_true]
       erw [kC]
       simp only[zQk,ZK]
     ·simp only[h6,Bool.or_true,Bool.true_or,cond_true]at o4
      simp only[cond_true]
      erw [kW o4]
      simp only[zQk,ZK]
    ·simp only[h5,Bool.or_true,cond_true]at o4 o5
     rw[Br]at o4 o5
     simp only[cond_true]
     erw [kS o4.1 (by omega) o5.2]
     simp only[zQk,ZK]
   ·simp only[h4,Bool.true_or,cond_true]at o4
    rw[Br]at o4
    simp only[cond_true]
    erw [kR o4.1 (by omega) o4.2]
    have hn:(o.2.2.2.1-o.2.2.2.1+1).toNat=1:=by omega
    simp only[zQk,ZK,hn]
  ·simp only[JA,P4 hs.fl,ha,Bool.not_false,cond_true,zQk,cond_false]
   cases e.2.1.findIdx? fun t=>t.1==o.2.1<;>rfl
 ·simp only[h1,cond_true]at o3
  simp only[cond_true,JA]
  have hb:=ZE H o2 o3 o.1 o.2.2.2.1 o.2.2.2.2.1 o.2.2.2.2.2.1 ce
  simp only[JA]at hb
  rw[hb]
  rfl
end Go.Ab
end
section
namespace Go.Ab
theorem Ao1 (d:Int):(0==d)=(d==0):=by rw[Bool.eq_iff_iff,beq_iff_eq,beq_iff_eq];exact⟨fun h=>h.symm,fun h=>h.symm⟩
theorem Aix (a:Int):a=1\/a=2\/a=3\/a=4\/a=5\/a=6\/((a==1)=false/\(a==2)=false/\(a==3)=false/\(a==4)=false/\(a==5)=false/\(a==6)=false/\inB a 1 6=false):=by
 by_cases h1:a=1
 ·exact .inl h1
 by_cases h2:a=2
 ·exact .inr (.inl h2)
 by_cases h3:a=3
 ·exact .inr (.inr (.inl h3))
 by_cases h4:a=4
 ·exact .inr (.inr (.inr (.inl h4)))
 by_cases h5:a=5
 ·exact .inr (.inr (.inr (.inr (.inl h5))))
 by_cases h6:a=6
 ·exact .inr (.inr (.inr (.inr (.inr (.inl h6)))))
 refine .inr (.inr (.inr (.inr (.inr (.inr ⟨by simpa using h1,by simpa using h2,by simpa using h3,by simpa using h4,by simpa using h5,by simpa using h6,?_⟩)))))
 cases h:inB a 1 6 with
 |false=>rfl
 |true=>have:=Br.1 h;omega
theorem dl (x:Int):Gj (x,())=some (inB x 1 4,()):=by simp[Gj,Ij]
theorem A6i (o:OPt):FD (o,())=some (N9 o,()):=by
 obtain⟨a,b,c,d,f,g,u⟩:=o
 unfold FD N9
 simp only[dl,Ij,M9,P3,QU,zQk]
 generalize hb:inB b 1 9=b'
 generalize hd:inB d 0 5=d'
 generalize hg:inB g (-1) 99=g'
 generalize hf:inB f d 5=f'
 generalize hc:inB c 1 4=c'
 generalize (c==0)=c0
 generalize (d==0)=d0
 generalize (f==0)=f0
 generalize (g==0)=g0
 rcases Aix a with rfl|rfl|rfl|rfl|rfl|rfl|⟨h1,h2,h3,h4,h5,h6,h7⟩
 ·simp only[show inB 1 1 6=true from rfl,show((1:Int)==1)=true from rfl,show((1:Int)==2)=false from rfl,show((1:Int)==3)=false from rfl,show((1:Int)==4)=false from rfl,cond_true,cond_false,Bool.or_false]
  cases b'<;>cases c'<;>cases d0<;>cases f0<;>cases g0<;>rfl
 ·simp only[show inB 2 1 6=true from rfl,show((2:Int)==1)=false from rfl,show((2:Int)==2)=true from rfl,show((2:Int)==3)=false from rfl,show((2:Int)==4)=false from rfl,cond_true,cond_false,Bool.or_false]
  cases b'<;>cases c0<;>cases d'<;>cases f0<;>cases g0<;>rfl
 ·simp only[show inB 3 1 6=true from rfl,show((3:Int)==1)=false from rfl,show((3:Int)==2)=false from rfl,show((3:Int)==3)=true from rfl,show((3:Int)==4)=false from rfl,cond_true,cond_false,Bool.or_false]
  cases b'<;>cases c0<;>cases d'<;>cases f0<;>cases g'<;>rfl
 ·simp only[show inB 4 1 6=true from rfl,show((4:Int)==1)=false from rfl,show((4:Int)==2)=false from rfl,show((4:Int)==3)=false from rfl,show((4:Int)==4)=true from rfl,cond_true,cond_false,Bool.or_false]
  cases b'<;>cases c0<;>cases d'<;>cases f'<;>cases g0<;>rfl
 ·simp only[show inB 5 1 6=true from rfl,show((5:Int)==1)=false from rfl,show((5:Int)==2)=false from rfl,show((5:Int)==3)=false from rfl,show((5:Int)==4)=false from rfl,cond_true,cond_false,Bool.or_false]
  cases b'<;>cases c0<;>cases d0<;>cases f0<;>cases g0<;>rfl
 ·simp only[show inB 6 1 6=true from rfl,show((6:Int)==1)=false from rfl,show((6:Int)==2)=false from rfl,show((6:Int)==3)=false from rfl,show((6:Int)==4)=false from rfl,cond_true,cond_false,Bool.or_false]
  cases b'<;>cases c0<;>cases d0<;>cases f0<;>cases g0<;>rfl
 ·simp only[h1,h2,h3,h4,h7,cond_true,cond_false,Bool.false_and]
theorem Zl (o:OPt):Eu (o,())=some (N9 o,()):=by
 obtain⟨a,b,c,d,f,g,u⟩:=o
 unfold Eu N9
 simp only[DW,zQk,beq_self_eq_true,Bool.true_and,Bool.and_true,Ao1]
 have hd0:(d==0)=true->inB d 0 5=true:=fun h=>by rw[beq_iff_eq]at h;subst h;rfl
 have hg0:(g==0)=true->inB g (-1) 99=true:=fun h=>by rw[beq_iff_eq]at h;subst h;rfl
 generalize hb:inB b 1 9=b'
 generalize hd:inB d 0 5=d' at hd0
 generalize hg:inB g (-1) 99=g' at hg0
 generalize hf:inB f d 5=f'
 generalize hc:inB c 1 4=c'
 generalize (c==0)=c0
 generalize (d==0)=d0 at hd0
 generalize (f==0)=f0
 generalize (g==0)=g0 at hg0
 rcases Aix a with rfl|rfl|rfl|rfl|rfl|rfl|⟨h1,h2,h3,h4,h5,h6,h7⟩
 all_goals first
  |(simp only[h1,h2,h3,h4,h5,h6,h7,cond_true,cond_false,Bool.false_and];done)
  |(clear hb hd hg hf hc
    cases b'<;>cases c0<;>cases c'<;>cases d0<;>cases d'<;>cases f0<;>cases f'<;>cases g0<;>cases g'<;>first|rfl|(exact absurd (hd0 rfl) (by decide))|(exact absurd (hg0 rfl) (by decide)))
end Go.Ab
end
section
namespace Go.Ab
theorem slA {α:Type}{l:List α}{i:Nat}(h:i<=l.length):GM l 0 (i:Int)=some (l.take i):=by
 unfold GM
 rw[if_pos ⟨Int.le_refl _,by omega,by omega⟩]
 simp
theorem slB {α:Type}{l:List α}{i:Nat}(h:i<=l.length):GM l (i:Int) ((l.length:Nat):Int)=some (l.drop i):=by
 unfold GM
 rw[if_pos ⟨by omega,by omega,by omega⟩]
 simp only[zXz]
 rw[List.take_of_length_le (by simp)]
theorem Amp {α:Type}{l:List α}{i:Nat}:Dr l (some (0,Int.toNat (i:Int)-Int.toNat 0))=l.take i:=by simp[Dr]
theorem Amo {α:Type}{l:List α}{i:Nat}:Dr l (some (0+Int.toNat (i:Int),Int.toNat ((l.length:Nat):Int)-Int.toNat (i:Int)))=l.drop i:=by
 simp only[Dr,zXz,zJj]
 exact List.take_of_length_le (by simp)
theorem sV {α:Type}{l:List α}{p:α->Bool}:∀{i:Nat} (h:i<l.length),(∀j (hj:j<l.length),j<i->p l[j]=true)->p l[i]=false->(l.takeWhile p).length=i:=by
 induction l with
 |nil=>intro i h;exact absurd h (Nat.not_lt_zero _)
 |cons a l ih=>
  intro i h h1 h2
  cases i with
  |zero=>
   have h2':p a=false:=h2
   simp[List.takeWhile_cons,h2']
  |succ i=>
   have h0:p a=true:=h1 0 (by simp) (by omega)
   rw[List.takeWhile_cons,h0]
   simp only[if_true,zXk]
   rw[ih (i:=i) (by simpa using h) (fun j hj hji=>h1 (j+1) (by simp;omega) (by omega)) h2]
theorem Oj {α τ:Type}{l:List α}{p:α->Bool}(hn:l.length<=1048576){B:Int×Unit->Option ((Int×Unit) ⊕ ((Int×Unit) ⊕ (Int×Unit)))}
 (hB:∀i (h:i<l.length),B ((i:Int),())=some (bif p l[i]then .inl (((i+1:Nat):Int),())else .inr (.inl ((i:Int),()))))(hE:B ((l.length:Int),())=some (.inr (.inr ((l.length:Int),()))))(F:Int×Unit->Option τ):
 ((Au B (0,())).bind fun q=>Ap q (fun q=>F q) fun q=>F q)=F ((((l.takeWhile p).length:Nat):Int),()):=by
 have key:∀m i:Nat,i+m=l.length->(∀j (hj:j<l.length),j<i->p l[j]=true)->((Au B ((i:Int),())).bind fun q=>Ap q (fun q=>F q) fun q=>F q)=F ((((l.takeWhile p).length:Nat):Int),()):=by
  intro m
  induction m with
  |zero=>
   intro i hi hp
   have:l.takeWhile p=l:=by
    rw[<-(QM (l:=l) (p:=p) (c:=l.length) (zQq _) (fun k hk h=>hp k hk (by omega)) (fun k hk h=>by omega)).1,List.take_length]
   obtain rfl:i=l.length:=by omega
   rw[AF,hE,this];rfl
  |succ m ih=>
   intro i hi hp
   have h:i<l.length:=by omega
   rw[AF,hB i h]
   cases hq:p l[i]
   ·simp only[cond_false,zQk]
    rw[sV h hp hq];rfl
   ·simp only[cond_true,zQk]
    exact ih (i+1) (by omega) (fun j hj h2=>by
     by_cases e:j=i
     ·subst e;exact hq
     ·exact hp j hj (by omega))
 exact key l.length 0 (by omega) (by intro j hj h;omega)
theorem RB {α:Type}{l:List α}{p:α->Bool}:l.take (l.takeWhile p).length=l.takeWhile p/\l.drop (l.takeWhile p).length=l.dropWhile p:=by
 have e:l.takeWhile p++l.dropWhile p=l:=List.takeWhile_append_dropWhile
 generalize l.takeWhile p=a at e ⊢
 generalize l.dropWhile p=b at e ⊢
 subst e
 simp
theorem WR {α:Type}{l:List α}{p:α->Bool}:(l.takeWhile p).length<=l.length:=by
 have e:=congrArg List.length (List.takeWhile_append_dropWhile (p:=p) (l:=l))
 rw[zJk]at e;omega
theorem Sx {lk:List VM}(hl:lk.length<=1048576)(key:Int):Fw (lk,key,())=some (Df lk key,()):=by
 unfold Fw Df
 have e:=J0 (B:=fun v=>DQ (lk,key,()) v _ some) (l:=lk) (fun i=>((i:Int),())) (fun m=>m.1==key) (fd:=fun i=>.inl (match lk[i]? with|some m=>m.2.1|none=>0,())) (no:=.inr ()) (fun i h=>by
  unfold DQ
  simp only[Ai h,zQk,decide_eq_true (by omega:(i:Int)<(lk.length:Int)),cond_true,Ah h (by omega),zQx h]
  cases lk[i].1==key<;>rfl) (by
  unfold DQ
  simp only[Int.lt_irrefl,decide_false,cond_false]) (t0:=(0,())) rfl
 erw [e]
 rw[OH]
 cases hf:lk.findIdx? (fun m=>m.1==key)with
 |none=>rfl
 |some i=>
  obtain⟨h1,_⟩:=List.findIdx?_eq_some_iff_getElem.1 hf
  simp only[zQk,Ap,zQx h1]
theorem rK {wt:List VM}(hl:wt.length<=1048576)(x:Int):KF (wt,x,())=some ((Wy wt x).getD 0,()):=by
 unfold KF Wy
 have e:=J0 (B:=fun v=>FM (wt,x,()) v _ some) (l:=wt) (fun i=>((i:Int),())) (fun m=>m.1==x) (fd:=fun i=>.inl (match wt[i]? with|some m=>m.2.1|none=>0,())) (no:=.inr ()) (fun i h=>by
  unfold FM
  simp only[Ai h,zQk,decide_eq_true (by omega:(i:Int)<(wt.length:Int)),cond_true,Ah h (by omega),zQx h]
  cases wt[i].1==x<;>rfl) (by
  unfold FM
  simp only[Int.lt_irrefl,decide_false,cond_false]) (t0:=(0,())) rfl
 erw [e]
 rw[OH]
 cases hf:wt.findIdx? (fun m=>m.1==x)with
 |none=>rfl
 |some i=>
  obtain⟨h1,_⟩:=List.findIdx?_eq_some_iff_getElem.1 hf
  simp only[zQk,Ap,zQx h1,Option.map_some,Option.getD_some]
theorem qO {α:Type}{f:α->Int}{l:List α}{t:Int}(h:(l.takeWhile fun x=>decide (f x<t)).length<l.length):Fs f l t=(f l[(l.takeWhile fun x=>decide (f x<t)).length]==t):=by
 unfold Fs Im
 have e:=(RB (l:=l) (p:=fun x=>decide (f x<t))).2
 rw[zXx h]at e
 rw[<-e]
theorem am {α:Type}{f:α->Int}{l:List α}{t:Int}(h:¬(l.takeWhile fun x=>decide (f x<t)).length<l.length):Fs f l t=false:=by
 unfold Fs Im
 have e:=(RB (l:=l) (p:=fun x=>decide (f x<t))).2
 rw[List.drop_of_length_le (by omega)]at e
 rw[<-e]
theorem Ql {α:Type}{f:α->Int}{l:List α}{m:α}{c:Nat}(hc:(l.takeWhile fun x=>decide (f x<f m)).length=c):
 CZ f l m=bif Fs f l (f m)then l.take c++[m]++l.drop (c+1)else l.take c++[m]++l.drop c:=by
 obtain⟨e1,e2⟩:=RB (l:=l) (p:=fun x=>decide (f x<f m))
 rw[hc]at e1 e2
 cases hh:Fs f l (f m)
 ·rw[MA hh,<-e1,<-e2];simp
 ·obtain⟨x,h1,h2,h3⟩:=Mz hh
  rw[h3,hc]
  rw[hc]at h1
  obtain⟨h4,_⟩:=zQj.1 h1
  rw[List.set_eq_take_append_cons_drop,if_pos h4];simp
theorem Zj {wt:List VM}(hl:wt.length<=1048576)(hv:NU wt){a b:Int}(ha:inB a 1 9=true)(hb:inB b 1 9=true)(hab:a≠b):
 IT (wt,a,b,())=some (true,CZ (·.1) wt (a,b,()),()):=by
 have hab':(a==b)=false:=by simpa using hab
 unfold IT
 simp only[L4 hl,Ax hv,DW,ha,hb,hab',zQk,zXj,cond_false]
 refine(Oj (l:=wt) (p:=fun x=>decide (x.1<a)) hl (fun i h=>?_) ?_ _).trans ?_
 ·unfold Gg
  simp only[Ai h,zQk,decide_eq_true (by omega:(i:Int)<(wt.length:Int)),cond_true,Ah h (by omega)]
  cases decide (wt[i].1<a)<;>rfl
 ·unfold Gg
  simp only[Int.lt_irrefl,decide_false,cond_false]
 ·have hle:=WR (l:=wt) (p:=fun x=>decide (x.1<a))
  generalize hc:(wt.takeWhile fun x=>decide (x.1<a)).length=c at hle
  rw[Ql (m:=(a,b,())) hc]
  have q1:(wt.take c).length<=2199023255552:=by simp;omega
  have q2:(wt.take c++[(a,b,())]).length<=2199023255552:=by simp;omega
  have q3:(wt.take c++[(a,b,())]++wt.drop c).length<=2199023255552:=by simp;omega
  have q4:(wt.take c++[(a,b,())]++wt.drop (c+1)).length<=2199023255552:=by simp;omega
  simp only[slA hle,zQk,q1,q2,if_true]
  by_cases hlt:c<wt.length
  ·have hh:=qO (f:=fun x:VM=>x.1) (l:=wt) (t:=a) (by rw[hc];exact hlt)
   simp only[hc]at hh
   simp only[decide_eq_true (by omega:(c:Int)<(wt.length:Int)),cond_true,Ai hlt,zQk,Ah hlt (by omega),slB hle,slB (by omega:c+1<=wt.length),q3,q4,if_true,hh]
   cases wt[c].1==a<;>rfl
  ·have hh:=am (f:=fun x:VM=>x.1) (l:=wt) (t:=a) (by rw[hc];exact hlt)
   simp only[decide_eq_false (by omega:¬(c:Int)<(wt.length:Int)),cond_false,slB hle,zQk,q3,if_true,hh]
end Go.Ab
end
section
namespace Go.Ab
theorem A6w {lk:List VM}(hu:J6 (·.1) lk){x:VM}(hx:x∈lk):Df lk x.1=x.2.1:=by
 unfold Df
 cases hf:lk.find? (fun m=>m.1==x.1)with
 |none=>exact absurd (List.find?_eq_none.1 hf x hx) (by simp)
 |some y=>
  have h1:=List.find?_some hf
  have h2:=List.mem_of_find?_eq_some hf
  simp only[beq_iff_eq]at h1
  obtain⟨i,hi,rfl⟩:=zJz h2
  obtain⟨j,hj,rfl⟩:=zJz hx
  by_cases hij:i=j
  ·subst hij;rfl
  ·rcases Nat.lt_or_gt_of_ne hij with h|h
   ·have:=List.pairwise_iff_getElem.1 hu i j hi hj h;simp only at this;omega
   ·have:=List.pairwise_iff_getElem.1 hu j i hj hi h;simp only at this;omega
theorem Aez {lk:List VM}(hu:J6 (·.1) lk){key id:Int}(ho:Df lk key=id)(h0:id≠0):CZ (·.1) lk (key,id,())=lk:=by
 have hx:∃x∈lk,x.1=key:=by
  unfold Df at ho
  cases hf:lk.find? (fun m=>m.1==key)with
  |none=>rw[hf]at ho;exact absurd ho.symm h0
  |some y=>exact⟨y,List.mem_of_find?_eq_some hf,by simpa using List.find?_some hf⟩
 obtain⟨x,e1,e2,e3⟩:=Mz (f:=fun x:VM=>x.1) (l:=lk) (m:=(key,id,())) ((Q4 hu key).2 hx)
 obtain⟨hlt,e4⟩:=zQj.1 e1
 have hx':x∈lk:=by rw[<-e4];exact zQz hlt
 have e2':x.1=key:=e2
 have hxi:x.2.1=id:=by rw[<-A6w hu hx',e2',ho]
 have hxe:x=(key,id,()):=Prod.ext e2' (Prod.ext hxi rfl)
 rw[e3]
 apply List.ext_getElem?
 intro i
 rw[List.getElem?_set]
 split
 ·rename_i h
  subst h
  rw[e1,hxe]
 ·rfl
theorem A6c {lk:List VM}(hl:lk.length<=1048576)(hv:Ry lk)(hu:J6 (·.1) lk){key id:Int}(hk:inB key 0 5=true)(hi:inB id 1 9=true)(ho:Df lk key=0\/Df lk key=id)(hpos:∀m∈lk,m.2.1≠0):
 HP (lk,key,id,())=some (true,CZ (·.1) lk (key,id,()),()):=by
 have hi0:id≠0:=by have:=Br.1 hi;omega
 have hcp:Hi (lk,())=some (lk,()):=by unfold Hi;simp only;rw[if_pos (by omega)]
 unfold HP
 simp only[hcp,Sx hl,L5 hl,Ax hv,DW,hk,hi,zQk,zXj,cond_false]
 rcases ho with h|h
 ·have h2:((0:Int)==id)=false:=by rw[beq_eq_false_iff_ne];exact fun h=>hi0 h.symm
  simp only[h,bne_self_eq_false,cond_false,h2]
  have hno:Fs (fun x:VM=>x.1) lk key=false:=by
   cases hh:Fs (fun x:VM=>x.1) lk key with
   |false=>rfl
   |true=>
    obtain⟨x,hx,hxk⟩:=(Q4 hu key).1 hh
    have:=A6w hu hx
    rw[hxk,h]at this
    exact absurd this.symm (hpos x hx)
  refine(Oj (l:=lk) (p:=fun x=>decide (x.1<key)) hl (fun i h=>?_) ?_ _).trans ?_
  ·have c:(0:Int)<=(i:Int)/\(i:Int)<(lk.length:Int):=by omega
   unfold Db
   simp only[decide_eq_true c.2,cond_true,c.1,c.2,and_self,if_true,zJj,zXz,zQx h,zQk,Ah h (by omega)]
   cases decide (lk[i].1<key)<;>rfl
  ·unfold Db
   simp only[Int.lt_irrefl,decide_false,cond_false]
  ·have hle:=WR (l:=lk) (p:=fun x=>decide (x.1<key))
   generalize hc:(lk.takeWhile fun x=>decide (x.1<key)).length=c at hle
   rw[Ql (m:=(key,id,())) hc]
   have q1:(lk.take c).length<=2199023255552:=by simp;omega
   have q2:(lk.take c++[(key,id,())]).length<=2199023255552:=by simp;omega
   have q3:(lk.take c++[(key,id,())]++lk.drop c).length<=2199023255552:=by simp;omega
   have c1:(0:Int)<=0/\(0:Int)<=(c:Int)/\(c:Int)<=(lk.length:Int):=by omega
   have c2:(0:Int)<=(c:Int)/\(c:Int)<=(lk.length:Int)/\(lk.length:Int)<=(lk.length:Int):=by omega
   simp only[Amp,Amo,hno,cond_false]
   rw[if_pos c1,if_pos q1,if_pos q2,if_pos c2,if_pos q3]
 ·have h2:(id != 0)=true:=by simpa using hi0
  simp only[h,h2,cond_true,bne_self_eq_false,cond_false,beq_self_eq_true,Aez hu h hi0]
theorem Af8 {wt:List VM}{out:List Int}(hl:out.length<=1048576)(x:Int){τ:Type}(A:List Int×List Int×Unit->Option τ)(N:Unit->Option τ):
 ((Au (fun v=>Dc (wt,x,out,()) v _ some) (0,())).bind fun p=>Ap p (fun p=>A (p.1,p.2.1,())) fun p=>N p)=if x∈out then A ([x],out++[x],())else N ():=by
 have e:=J0 (B:=fun v=>Dc (wt,x,out,()) v _ some) (l:=out) (fun i=>((i:Int),())) (fun m=>m==x) (fd:=fun i=>.inl ([x],out++[x],())) (no:=.inr ()) (fun i h=>by
  have c:(0:Int)<=(i:Int)/\(i:Int)<(out.length:Int):=by omega
  have c2:(out++[x]).length<=4398046511104:=by simp;omega
  unfold Dc
  simp only[decide_eq_true c.2,cond_true,c.1,c.2,and_self,if_true,zJj,zXz,zQx h,zQk,Ah h (by omega),c2]
  cases out[i]==x<;>rfl) (by
  unfold Dc
  simp only[Int.lt_irrefl,decide_false,cond_false]) (t0:=(0,())) rfl
 erw [e]
 cases hf:out.findIdx? (fun m=>m==x)with
 |none=>
  have hn:x∉out:=fun h=>by
   have:=List.findIdx?_eq_none_iff.1 hf x h
   simp at this
  simp only[zQk,Ap,hn,if_false]
 |some i=>
  obtain⟨h1,h2,_⟩:=List.findIdx?_eq_some_iff_getElem.1 hf
  have hn:x∈out:=by
   have:out[i]=x:=by simpa using h2
   rw[<-this];exact zQz h1
  simp only[zQk,Ap,hn,if_true]
theorem A9a {wt:List VM}(hl:wt.length<=1048576)(hok:NU wt):∀(n:Nat) (out:List Int) (x:Int),x∉out->out.Nodup->(∀y∈out,inB y 1 9=true)->inB x 1 9=true->9<=out.length+n->
 ((Au (fun v=>Dd (wt,()) v _ some) (x,out,())).bind fun p=>Ap p (fun p=>some ((p.2.1,()):List Int×Unit)) fun p=>Ap p (fun p=>some (p.1,())) fun p=>Ap p (fun p=>some (p.1,())) fun p=>some (p.1,()))=some (Iz wt n (out++[x]) x,()):=by
 have hw:=fun m hm=>(((K9 _).1 hok).1 m hm).2.1
 intro n
 induction n with
 |zero=>
  intro out x h1 h2 h3 h4 h5
  have:=Af9 (out:=out++[x]) (by rw[List.nodup_append];exact⟨h2,by simp,fun a ha b hb=>by rw[List.mem_singleton.1 hb];rintro rfl;exact h1 ha⟩) (fun y hy=>by
   rcases List.mem_append.1 hy with h|h
   ·exact h3 y h
   ·rw[List.mem_singleton.1 h];exact h4)
  simp at this;omega
 |succ n ih=>
  intro out x h1 h2 h3 h4 h5
  have hx:=Br.1 h4
  have hnd:(out++[x]).Nodup:=by rw[List.nodup_append];exact⟨h2,by simp,fun a ha b hb=>by rw[List.mem_singleton.1 hb];rintro rfl;exact h1 ha⟩
  have hin:∀y∈out++[x],inB y 1 9=true:=fun y hy=>by
   rcases List.mem_append.1 hy with h|h
   ·exact h3 y h
   ·rw[List.mem_singleton.1 h];exact h4
  have h9:=Af9 hnd hin
  simp only[zJk,zXk,List.length_nil]at h9
  have step:∀(x:Int) (out:List Int),inB x 1 9=true->out.length<=9->Dd (wt,()) (x,out,()) _ some=if x∈out then some (Sum.inr (Sum.inl ([x],out++[x],())))else some (Sum.inl ((Wy wt x).getD 0,out++[x],())):=by
   intro x out hx hlen
   have hx':=Br.1 hx
   have c2:(out++[x]).length<=4398046511104:=by simp;omega
   unfold Dd
   simp only[decide_eq_true (by omega:x>0),cond_true,L4 hl,Ax hok,zQk,decide_eq_true (by omega:x<=9)]
   refine(Af8 (wt:=wt) (by omega:out.length<=1048576) x (fun p=>some (Sum.inr (Sum.inl p))) _).trans ?_
   simp only[c2,if_true,rK hl,zQk]
  rw[AF]
  erw [step x out h4 (by omega)]
  simp only[h1,if_false,zQk]
  unfold Iz
  cases hf:Wy wt x with
  |none=>
   simp only[Option.getD_none]
   rw[AF]
   unfold Dd
   simp only[gt_iff_lt,Int.lt_irrefl,decide_false,cond_false,zQk,Ap]
  |some y=>
   simp only[Option.getD_some]
   have hy:inB y 1 9=true:=by
    unfold Wy at hf
    cases hg:wt.find? (fun m=>m.1==x)with
    |none=>rw[hg]at hf;cases hf
    |some m=>
     rw[hg]at hf
     obtain rfl:m.2.1=y:=by simpa using hf
     exact hw m (List.mem_of_find?_eq_some hg)
   by_cases hm:y∈out++[x]
   ·rw[AF]
    erw [step y (out++[x]) hy (by simp;omega)]
    simp only[hm,if_true,zQk,Ap]
   ·simp only[hm,if_false]
    exact ih (out++[x]) y hm hnd hin hy (by simp;omega)
theorem A87 {wt:List VM}(hu:J6 (·.1) wt)(a b:Int):Wy (CZ (·.1) wt (a,b,())) a=some b:=by
 unfold Wy
 have hup:=My (f:=fun x:VM=>x.1) hu (a,b,())
 have hm:(a,b,())∈CZ (fun x:VM=>x.1) wt (a,b,()):=(Jj hu).2 (.inl rfl)
 cases hf:(CZ (fun x:VM=>x.1) wt (a,b,())).find? (fun m=>m.1==a)with
 |none=>exact absurd (List.find?_eq_none.1 hf _ hm) (by simp)
 |some y=>
  have h1:y.1=a:=by simpa using List.find?_some hf
  have h2:=List.mem_of_find?_eq_some hf
  rcases(Jj hu).1 h2 with rfl|⟨_,h3⟩
  ·rfl
  ·exact absurd h1 h3
theorem Ru (wt:List VM):∀(n:Nat) (out:List Int) (x:Int),out.length<=(Iz wt n out x).length
 |0,out,x=>zQq _
 |n+1,out,x=>by
  unfold Iz
  split
  ·exact zQq _
  ·split
   ·simp
   ·rename_i y _ _
    have:=Ru wt n (out++[y]) y
    simp at this;omega
theorem di {e:EG}(H:OkG e){a b:Int}(ha:inB a 1 9=true)(hb:inB b 1 9=true)(hab:a≠b):Gm (e.2.2.2.1,a,b,())=some (Rs e.2.2.2.1 a b,()):=by
 have hl:=H.wtLen
 have hw0:NU e.2.2.2.1:=(K9 _).2 ⟨H.wtA,H.wtU⟩
 have hw1:NU (CZ (·.1) e.2.2.2.1 (a,b,())):=ZL H.wtA H.wtU ha hb hab
 have hpl:(CZ (·.1) e.2.2.2.1 (a,b,())).length<=1048576:=by have:=QR (f:=fun x:VM=>x.1) e.2.2.2.1 (a,b,());omega
 have hs:=Zj (wt:=e.2.2.2.1) (by omega) hw0 ha hb hab
 have hc:=A9a (wt:=CZ (·.1) e.2.2.2.1 (a,b,())) hpl hw1 10 [] a (by simp) (by simp) (by simp) ha (by simp)
 unfold Gm Rs
 simp only[hs,zQk,zXj,cond_false]
 unfold Ku
 erw [hc]
 simp only[zQk,List.nil_append]
 have h0:2<=(Iz (CZ (·.1) e.2.2.2.1 (a,b,())) 10 [a] a).length:=by
  unfold Iz
  have hab':b∉[a]:=by simpa using fun h:b=a=>hab h.symm
  simp only[A87 H.wtU,hab',if_false]
  have:=Ru (CZ (fun x:VM=>x.1) e.2.2.2.1 (a,b,())) 9 ([a]++[b]) b
  simpa using this
 have h2:=Q6 (CZ (·.1) e.2.2.2.1 (a,b,())) 10 [a] a
 generalize Iz (CZ (·.1) e.2.2.2.1 (a,b,())) 10 [a] a=c at h0 h2 ⊢
 simp only[zXk,List.length_nil]at h2
 have c0:(c.length:Int)>1:=by omega
 have c1:(0:Int)<=(c.length:Int)-1/\(c.length:Int)-1<(c.length:Int):=by omega
 have hj:((c.length:Int)-1).toNat=c.length-1:=by omega
 simp only[decide_eq_true c0,cond_true,J5 (by omega:c.length<9223372036854775808),c1,and_self,if_true,zJj,hj,List.getLast?_eq_getElem?,zQx (by omega:c.length-1<c.length),zQk]
 rfl
end Go.Ab
end
section
namespace Go.Ab
theorem LB {l:List VV}(hl:IA l)(hok:LQ l){v:VV}(hv:l[l.length-1]? =some v):BS (l,())=some v:=by
 unfold IA at hl
 have hpos:0<l.length:=by
  obtain⟨h,_⟩:=zQj.1 hv;omega
 unfold BS
 have h:lAt l ((l.length:Int)-1)=some v:=by
  rw[show((l.length:Int)-1)=((l.length-1:Nat):Int) by omega,Ai (by omega)]
  rw[zQx (by omega)]at hv;exact hv
 simp only[Wc hl,Ax hok,zQk,zXj,cond_false,J5 (by omega:l.length<9223372036854775808),h]
theorem Qm {t:TX}(ht:smT t):AR (tup t,())=some (Md t,()):=Qn ht.1 ht.2
theorem OkG.txOk {e:EG}(H:OkG e){k:Nat}(hk:k<e.2.1.length):Md e.2.1[k]=true:=(H.txA _ (zQz hk)).1
theorem PV {e:EG}(H:OkG e){k:Nat}(hk:k<e.2.1.length)(ha:e.2.1[k].2.2.1=1){key:Int}(hkey:inB key 0 5=true):
 Hg ((e.1,()),tup e.2.1[k],key,())=some (true,()):=by
 unfold Hg
 simp only[N4 H.small.fs,Ax H.st,Qm (H.smT hk),H.txOk hk,cond_true,DW,hkey,zQk]
 simp only[ha,beq_self_eq_true,cond_true]
theorem A66 {t:TX}(h:smT t)(key:Int):Jg (tup t,key,())=some (fx (t.2.2.2.2.2.2.2.2.1.findIdx? fun m=>m.1==key),()):=by
 unfold Jg
 exact DK (l:=t.2.2.2.2.2.2.2.2.1) (p:=fun m=>m.1==key) h.2 (fun i hi=>by
  unfold ES
  simp only[Ai hi,zQk,decide_eq_true (by omega:(i:Int)<(t.2.2.2.2.2.2.2.2.1.length:Int)),cond_true,Ah hi (by have:=h.2;omega)]
  cases t.2.2.2.2.2.2.2.2.1[i].1==key<;>rfl) (by
  unfold ES
  simp only[Int.lt_irrefl,decide_false,cond_false])
theorem Wb {e:EG}(H:OkG e){k:Nat}(hk:k<e.2.1.length)(ha:e.2.1[k].2.2.1=1){key:Int}(hkey:inB key 0 5=true):
 Gs ((e.1,()),tup e.2.1[k],key,())=some (match KM e.1 e.2.1[k] key with|none=>(0,0,0,0,0,3,())|some v=>(v.1,v.2.1,v.2.2.1,v.2.2.2.1,v.2.2.2.2.1,0,())):=by
 obtain⟨n,hn,v,e1,e2,e3,e4,e5,e6,e7⟩:=H.ltst hkey
 have hmem:=zQz hn
 have hok:=(H.gd.ok _ hmem).1
 have hsm:=H.small.fs.2 _ hmem
 have hkn:key.toNat=n:=by omega
 unfold Gs KM
 simp only[PV H hk ha hkey,e6,zQk,zXj,cond_false,LB hsm hok e4,hkn,zQx hn]
 cases h2:e.2.1[k].2.1==2
 ·have hc:¬((e.1[n].length:Int)-1<0):=by omega
  have hj:((e.1[n].length:Int)-1).toNat=e.1[n].length-1:=by omega
  simp only[cond_false,decide_eq_false hc,hj,e4,zQk]
  cases e.2.1[k].2.1==4
  ·rfl
  ·simp only[cond_true,Bool.true_and]
   cases decide (v.2.2.1>e.2.1[k].2.2.2.1)<;>rfl
 ·have h4:(e.2.1[k].2.1==4)=false:=by rw[beq_iff_eq]at h2;rw[h2];rfl
  simp only[cond_true,h4,Bool.false_and,cond_false]
  unfold M2
  simp only[N4 H.small.fs,Ax H.st,zQk,zXj,cond_false,DW,hkey,e6,A6b hsm hok]
  cases hd:decide (vA e.1[n] e.2.1[k].2.2.2.1 e.1[n].length<0)
  ·have h0:0<=vA e.1[n] e.2.1[k].2.2.2.1 e.1[n].length:=by have:=of_decide_eq_false hd;omega
   have h1:=(RY e.1[n] e.2.1[k].2.2.2.1 e.1[n].length).2
   obtain⟨j,hj⟩:=Int.eq_ofNat_of_zero_le h0
   rw[hj]at h1 ⊢
   have hjl:j<e.1[n].length:=by omega
   simp only[cond_false,Ai hjl,zQk,zXz,zQx hjl,zXj]
  ·simp only[cond_true,zQk,Bool.not_false]
theorem A5w {e:EG}(H:OkG e){k:Nat}(hk:k<e.2.1.length)(ha:e.2.1[k].2.2.1=1){key:Int}(hkey:inB key 0 5=true):
 J8 ((e.1,()),e.2.2.1,tup e.2.1[k],key,())=some (GI e.1 e.2.2.1 e.2.1[k] key,()):=by
 obtain⟨n,hn,v,e1,e2,e3,e4,e5,e6,e7⟩:=H.ltst hkey
 have hmem:=zQz hn
 have hok:=(H.gd.ok _ hmem).1
 have hsm:=H.small.fs.2 _ hmem
 have hle:=dC (((KG _).1 hok).1 v e7)
 have himp:decide (v.2.2.1>e.2.1[k].2.2.2.1)=true->decide (v.2.2.2.1>e.2.1[k].2.2.2.1)=true:=fun h=>by
  have:=of_decide_eq_true h
  exact decide_eq_true (by omega)
 unfold J8 GI
 simp only[PV H hk ha hkey,e6,zQk,zXj,cond_false,LB hsm hok e4,L5 H.small.fk,Ax ((Ot _).2 ⟨H.lkA,H.lkU⟩),Sx H.small.fk,e5,crV,Mw,bne]
 generalize (Df e.2.2.1 key==0)=b1
 generalize (Df e.2.2.1 key==e.2.1[k].1)=b2
 generalize (e.2.1[k].2.1==1)=b3
 generalize (e.2.1[k].2.1==2)=b4
 generalize (e.2.1[k].2.1==4)=b5
 generalize decide (v.2.2.1>e.2.1[k].2.2.2.1)=b6 at himp
 generalize decide (v.2.2.2.1>e.2.1[k].2.2.2.1)=b7 at himp
 cases b1<;>cases b2<;>cases b3<;>cases b4<;>cases b5<;>cases b6<;>cases b7<;>first|rfl|exact absurd (himp rfl) (by decide)
theorem A63 {l:List VM}(hl:l.length<=1048576)(m:VM):IB (l,(m.1,m.2.1,()),())=some (CZ (·.1) l m,()):=by
 unfold IB
 refine(Oj (l:=l) (p:=fun x=>decide (x.1<m.1)) hl (fun i h=>?_) ?_ _).trans ?_
 ·unfold En
  simp only[Ai h,zQk,decide_eq_true (by omega:(i:Int)<(l.length:Int)),cond_true,Ah h (by omega)]
  cases decide (l[i].1<m.1)<;>rfl
 ·unfold En
  simp only[Int.lt_irrefl,decide_false,cond_false]
 ·have hle:=WR (l:=l) (p:=fun x=>decide (x.1<m.1))
  generalize hc:(l.takeWhile fun x=>decide (x.1<m.1)).length=c at hle
  rw[Ql (m:=m) hc]
  have q1:(l.take c).length<=2199023255552:=by simp;omega
  have q2:(l.take c++[m]).length<=2199023255552:=by simp;omega
  have q3:(l.take c++[m]++l.drop c).length<=2199023255552:=by simp;omega
  have q4:(l.take c++[m]++l.drop (c+1)).length<=2199023255552:=by simp;omega
  simp only[slA hle,zQk]
  rw[if_pos q1]
  erw [if_pos q2]
  by_cases hlt:c<l.length
  ·have hh:=qO (f:=fun x:VM=>x.1) (l:=l) (t:=m.1) (by rw[hc];exact hlt)
   simp only[hc]at hh
   simp only[decide_eq_true (by omega:(c:Int)<(l.length:Int)),cond_true,Ai hlt,zQk,Ah hlt (by omega),slB hle,slB (by omega:c+1<=l.length),hh]
   cases l[c].1==m.1
   ·erw [if_pos q3]<;>rfl
   ·erw [if_pos q4]<;>rfl
  ·have hh:=am (f:=fun x:VM=>x.1) (l:=l) (t:=m.1) (by rw[hc];exact hlt)
   simp only[decide_eq_false (by omega:¬(c:Int)<(l.length:Int)),cond_false,slB hle,zQk,hh]
   erw [if_pos q3]<;>rfl
def ptl (m:VM):List VM->List VM|[]=>[]|x::r=>if x=m then r else x::r
theorem A5o (l:List VM)(m:VM):LA l m=l.takeWhile (fun x=>IQ x m)++m::ptl m (l.dropWhile fun x=>IQ x m):=by
 unfold LA
 cases l.dropWhile fun x=>IQ x m<;>rfl
theorem A64 {l:List VM}(hl:l.length<=1048576)(m:VM):J7 (l,(m.1,m.2.1,()),())=some (LA l m,()):=by
 have hb:∀a b:VM,decide (CC a b)=IQ a b:=fun a b=>by
  rw[Bool.eq_iff_iff,decide_eq_true_eq,ML]
 unfold J7
 refine(Oj (l:=l) (p:=fun x=>IQ x m) hl (fun i h=>?_) ?_ _).trans ?_
 ·unfold EI
  have:=ZI l[i] m
  simp only[Ai h,zQk,decide_eq_true (by omega:(i:Int)<(l.length:Int)),cond_true,Ah h (by omega),this,hb]
  cases IQ l[i] m<;>rfl
 ·unfold EI
  simp only[Int.lt_irrefl,decide_false,cond_false]
 ·have hle:=WR (l:=l) (p:=fun x=>IQ x m)
  obtain⟨t1,t2⟩:=RB (l:=l) (p:=fun x=>IQ x m)
  have hp:LA l m=l.take (l.takeWhile fun x=>IQ x m).length++m::ptl m (l.drop (l.takeWhile fun x=>IQ x m).length):=by
   rw[A5o,t1,t2]
  rw[hp]
  clear hp t1 t2
  generalize (l.takeWhile fun x=>IQ x m).length=c at hle
  have q0:l.length<=2199023255552:=by omega
  have q1:(l.take c).length<=2199023255552:=by simp;omega
  have q2:(l.take c++[m]).length<=2199023255552:=by simp;omega
  have q3:(l.take c++[m]++l.drop c).length<=2199023255552:=by simp;omega
  simp only[slA hle,zQk,slB hle,q0,q1,if_true]
  by_cases hlt:c<l.length
  ·simp only[decide_eq_true (by omega:(c:Int)<(l.length:Int)),cond_true,Ai hlt,zQk,Bool.and_true]
   rw[zXx hlt]at q3 ⊢
   by_cases hx:l[c]=m
   ·have h1:(l[c].1==m.1&&l[c].2.1==m.2.1)=true:=by rw[hx];simp
    simp only[h1,cond_true,ptl]
    rw[if_pos hx,<-hx,<-zXx hlt,List.take_append_drop]
   ·have h1:(l[c].1==m.1&&l[c].2.1==m.2.1)=false:=by
     cases h:(l[c].1==m.1&&l[c].2.1==m.2.1)with
     |false=>rfl
     |true=>
      rw[zJq,beq_iff_eq,beq_iff_eq]at h
      exact absurd (Prod.ext h.1 (Prod.ext h.2 rfl)) hx
    simp only[h1,cond_false,ptl,hx,if_false]
    erw [if_pos q2,if_pos q3]
    simp
  ·have h0:l.drop c=[]:=List.drop_of_length_le (by omega)
   simp only[decide_eq_false (by omega:¬(c:Int)<(l.length:Int)),cond_false,h0,ptl]at q3 ⊢
   erw [if_pos q2,if_pos q3]
   simp
end Go.Ab
end
section
namespace Go.Ab
def rY (t:TX)(b:Bool):Int×Int×Int×Int×Int×Int×Int×Bool×List VM×List VM×Unit:=
 (t.1,t.2.1,t.2.2.1,t.2.2.2.1,t.2.2.2.2.1,t.2.2.2.2.2.1,t.2.2.2.2.2.2.1,b,t.2.2.2.2.2.2.2.1,t.2.2.2.2.2.2.2.2.1,())
theorem A5y {t:TX}(ht:smT t)(hok:Md t=true)(ha:t.2.2.1=1){key:Int}(hkey:inB key 0 5=true){v:VV}(hv:okV v=true):
 Ja (tup t,key,(v.1,v.2.1,v.2.2.1,v.2.2.2.1,v.2.2.2.2.1,()),())=some (match O5 t key v with|none=>rY t false|some t'=>rY t' true):=by
 have h60:(((t.2.2.2.2.2.2.2.1.length:Nat):Int)==60)=(t.2.2.2.2.2.2.2.1.length==60):=by
  rw[Bool.eq_iff_iff,beq_iff_eq,beq_iff_eq];omega
 have ha':(t.2.2.1 != 1)=false:=by rw[ha];rfl
 have hpr:=A64 ht.1 (key,v.2.2.1,())
 simp only at hpr
 unfold Ja O5
 simp only[OZ t ht,Qm ht,hok,zQk,zXj,cond_false,ha',DW,hkey,qx v,hv,h60,hpr]
 cases t.2.2.2.2.2.2.2.1.length==60<;>rfl
theorem A5x {e:EG}(H:OkG e){k:Nat}(hk:k<e.2.1.length)(ha:e.2.1[k].2.2.1=1){key val:Int}(hkey:inB key 0 5=true)(hval:inB val (-1) 99=true):
 Gn ((e.1,()),tup e.2.1[k],key,val,())=some (rY (Pw e.2.1[k] (mx e.2.1[k].2.2.2.2.1 (Mw (Ff e.1 key))) (CZ (·.1) e.2.1[k].2.2.2.2.2.2.2.2.1 (key,val,()))) true):=by
 obtain⟨n,hn,v,e1,e2,e3,e4,e5,e6,e7⟩:=H.ltst hkey
 have hmem:=zQz hn
 have ht:=H.smT hk
 have ha':(e.2.1[k].2.2.1 != 1)=false:=by rw[ha];rfl
 have hpw:=A63 ht.2 (key,val,())
 simp only at hpw
 unfold Gn
 simp only[OZ _ ht,N4 H.small.fs,Ax H.st,Qm ht,H.txOk hk,zQk,zXj,cond_false,ha',DW,hkey,hval,hpw,e6,LB (H.small.fs.2 _ hmem) (H.gd.ok _ hmem).1 e4,e5,Mw,rY,Pw]
theorem Su {e:EG}(H:OkG e){k:Nat}(hk:k<e.2.1.length)(ha:e.2.1[k].2.2.1=1){key:Int}(hkey:inB key 0 5=true)(ce:Bool):
 Hf ((k:Int),key,JA ce e)=some ((Hr e k key).1,(Hr e k key).2.1,JA ce (Hr e k key).2.2):=by
 have hs:=H.small
 have ht:=H.smT hk
 have c:(0:Int)<=(k:Int)/\(k:Int)<(e.2.1.length:Int):=by omega
 have hfw:=A66 ht key
 have hch:=Wb H hk ha hkey
 simp only[tup]at hfw hch
 unfold Hf Hr JA
 simp only[c,and_self,if_true,zJj,zXz,zQx hk,zQk,hfw,an,Tk]
 cases hf:e.2.1[k].2.2.2.2.2.2.2.2.1.findIdx? (fun m=>m.1==key)with
 |some i=>
  obtain⟨h1,_⟩:=List.findIdx?_eq_some_iff_getElem.1 hf
  have c:(0:Int)<=(i:Int)/\(i:Int)<(e.2.1[k].2.2.2.2.2.2.2.2.1.length:Int):=by omega
  simp only[Option.isSome_some,cond_true,fx,c,and_self,if_true,zJj,zXz,zQx h1,zQk,Option.map_some]
 |none=>
  simp only[Option.isSome_none,cond_false,hch,zQk]
  cases hcp:KM e.1 e.2.1[k] key with
  |none=>
   simp only[bne,show((3:Int)==0)=false from rfl,Bool.not_false,cond_true,JT hk hs.fk hs.fw ce ha,zQk,Ko,Gw]
  |some v=>
   have hv:okV v=true:=by
    obtain⟨l,h1,h2⟩:=Rt hcp
    exact((KG _).1 (H.gd.ok l (List.mem_of_getElem? h1)).1).1 v h2
   have htr:=A5y ht (H.txOk hk) ha hkey hv
   simp only[tup]at htr
   simp only[bne,show((0:Int)==0)=true from rfl,zXj,cond_false,htr,zQk]
   cases O5 e.2.1[k] key v with
   |none=>rfl
   |some t'=>rfl
theorem Zi {k:Nat}{hi:Int}{ce:Bool}(hh:hi<=5):∀(n:Nat) (key:Int) (out:List Int) (e:EG),OkG e->k<e.2.1.length->(∀t,e.2.1[k]? =some t->t.2.2.1=1)->0<=key->key+n=hi+1->out.length<=key.toNat->
 ((Au (fun v=>DN ((k:Int),hi,0,()) v _ some) (key,ce,e.2.2.2.2,e.1,e.2.1,e.2.2.1,e.2.2.2.1,out,())).bind fun p=>Ap p (fun p=>some
   ((p.2.2.2.2.1,p.1,p.2.1,p.2.2.1,p.2.2.2.1,p.2.2.2.2.2.2.1,p.2.2.2.2.2.2.2.1,[],()):Int×Bool×Int×List (List VV)×List TX×List VM×List VM×List Int×Unit)) fun p=>some (0,p.1,p.2.1,p.2.2.1,p.2.2.2.1,p.2.2.2.2.1,p.2.2.2.2.2.1,p.2.2.2.2.2.2.1,()))=
 some ((Fu k n key out e).1,ce,(Fu k n key out e).2.2.2.2.2.2,(Fu k n key out e).2.2.1,(Fu k n key out e).2.2.2.1,(Fu k n key out e).2.2.2.2.1,(Fu k n key out e).2.2.2.2.2.1,(Fu k n key out e).2.1,()):=by
 intro n
 induction n with
 |zero=>
  intro key out e H hk ha h0 hn ho
  rw[AF]
  have hd:¬key<=hi:=by omega
  simp only[DN,decide_eq_false hd,cond_false,zQk,Ap,Fu]
 |succ n ih=>
  intro key out e H hk ha h0 hn ho
  have hkey:inB key 0 5=true:=Br.2 ⟨h0,by omega⟩
  have hr:=Su H hk (ha _ (zQx hk)) hkey ce
  have hs:=H.read (zQx hk) (ha _ (zQx hk)) hkey
  unfold JA at hr
  rw[AF]
  have hd:key<=hi:=by omega
  simp only[DN,decide_eq_true hd,cond_true,hr,zQk,Fu]
  cases hc:(Hr e k key).2.1==0
  ·simp only[bne,hc,Bool.not_false,cond_true,zQk,Ap,cond_false]
  ·have hc':(Hr e k key).2.1=0:=by simpa using hc
   obtain⟨t',ht1,ht2,ht3⟩:=hs.2.1 hc'
   have hlen:(out++[(Hr e k key).1]).length<=4398046511104:=by
    have:key.toNat<=5:=by omega
    simp;omega
   have hw:IntKind.i64.wrap (key+1)=key+1:=Bn (by omega) (by omega)
   simp only[bne,hc,zXj,cond_false,hlen,if_true,zQk,hw,cond_true]
   exact ih (key+1) (out++[(Hr e k key).1]) (Hr e k key).2.2 hs.1 (by rw[hs.2.2];exact hk) (fun t ht=>by rw[ht1]at ht;obtain rfl:t'=t:=(by simpa using ht);exact ht2) (by omega) (by omega) (by simp;omega)
theorem cZ {e:EG}(H:OkG e){k:Nat}(hk:k<e.2.1.length)(ha:e.2.1[k].2.2.1=1){lo hi:Int}(h0:0<=lo)(h1:lo<=hi+1)(h2:hi<=5)(ce:Bool):
 Kt ((k:Int),lo,hi,JA ce e)=some (ZK ce (Fu k (hi-lo+1).toNat lo [] e)):=
 Zi h2 (hi-lo+1).toNat lo [] e H hk (fun t ht=>by rw[zQx hk]at ht;obtain rfl:e.2.1[k]=t:=(by simpa using ht);exact ha) h0 (by omega) (by simp)
theorem Zg {e:EG}(H:OkG e){k:Nat}(hk:k<e.2.1.length)(ha:e.2.1[k].2.2.1=1){key val:Int}(hkey:inB key 0 5=true)(hval:inB val (-1) 99=true)(a b c d:Int)(ce:Bool):
 IC ((k:Int),a,b,c,key,d,val,JA ce e)=some ((MM e k key val).1,JA ce (MM e k key val).2):=by
 have hs:=H.small
 have hid:=H.idIn hk
 have c0:(0:Int)<=(k:Int)/\(k:Int)<(e.2.1.length:Int):=by omega
 have hwc:=A5w H hk ha hkey
 have htw:=A5x H hk ha hkey hval
 simp only[tup]at hwc htw
 unfold IC MM JA
 simp only[c0,and_self,if_true,zJj,zXz,zQx hk,zQk,hwc,Sx hs.fk]
 cases hc:(GI e.1 e.2.2.1 e.2.1[k] key==1)
 ·simp only[cond_false]
  cases hc0:(GI e.1 e.2.2.1 e.2.1[k] key==0)
  ·simp only[bne,hc0,Bool.not_false,cond_true,JT hk hs.fk hs.fw ce ha,zQk,cond_false,Ko,Gw]
  ·have hc0':GI e.1 e.2.2.1 e.2.1[k] key=0:=by simpa using hc0
   have htl:ID (e.2.1[k].2.1,())=some (e.2.1[k].2.1==1||e.2.1[k].2.1==2,()):=by
    unfold ID
    cases e.2.1[k].2.1==1<;>rfl
   simp only[bne,hc0,zXj,cond_false,cond_true,htw,htl,zQk]
   cases ht:(e.2.1[k].2.1==1||e.2.1[k].2.1==2)
   ·simp only[cond_false,rY,Pw]
   ·simp only[cond_true,A6c (lk:=e.2.2.1) hs.fk ((Ot _).2 ⟨H.lkA,H.lkU⟩) H.lkU hkey hid (Ra hc0' ht) (fun m hm=>by have:=Br.1 (H.lkA m hm).2;omega),zQk,rY,Pw]
 ·have hc':GI e.1 e.2.2.1 e.2.1[k] key=1:=by simpa using hc
  obtain⟨n0,n1⟩:=Tl hc'
  have ho:=ZZ H n0
  have hab:e.2.1[k].1≠Df e.2.2.1 key:=fun h=>n1 h.symm
  simp only[cond_true,di H hid ho hab,zQk]
  cases Rs e.2.2.2.1 e.2.1[k].1 (Df e.2.2.1 key)
  ·simp only[cond_false,Zj hs.fw ((K9 _).2 ⟨H.wtA,H.wtU⟩) hid ho hab,zQk,hc']
  ·simp only[cond_true,JT hk hs.fk hs.fw ce ha,zQk,Ko,Gw]
end Go.Ab
end
section
namespace Go.Ab
section
variable {e:EG}(H:OkG e){k:Nat}(hk:k<e.2.1.length)(ha:e.2.1[k].2.2.1=1)
include H hk ha
theorem A68:IH ((e.1,()),tup e.2.1[k],())=some (Nq e.1 e.2.1[k],()):=by
 have hg:=PV H hk ha (key:=0) rfl
 have hwl:=(H.smT hk).2
 have hwr:=H.wrIn hk
 simp only[tup]at hg
 unfold IH Nq
 simp only[hg,zQk,zXj,cond_false]
 have hD:∀i (h:i<e.2.1[k].2.2.2.2.2.2.2.2.1.length),∀(hc:Bool),decide (crV (Ff e.1 e.2.1[k].2.2.2.2.2.2.2.2.1[i].1)>e.2.1[k].2.2.2.1)=hc->
  BX (e.1,tup e.2.1[k]) ((i:Int),()) _ some=bif !hc then some (.inl (((i+1:Nat):Int),()))else bif e.2.1[k].2.1==2 then some (.inr (.inl ()))else bif e.2.1[k].2.1==4 then some (.inr (.inr (.inl ())))else some (.inl (((i+1:Nat):Int),())):=by
  intro i h hc hh
  obtain⟨n,hn,v,e1,e2,e3,e4,e5,e6,e7⟩:=H.ltst (hwr _ (zQz h))
  have hmem:=zQz hn
  rw[e5,crV]at hh
  have hnn:decide (v.2.2.1<=e.2.1[k].2.2.2.1)=!hc:=by
   cases hc
   ·have:=of_decide_eq_false hh;exact decide_eq_true (by omega)
   ·have:=of_decide_eq_true hh;exact decide_eq_false (by omega)
  unfold BX
  simp only[Ai h,zQk,decide_eq_true (by omega:(i:Int)<(e.2.1[k].2.2.2.2.2.2.2.2.1.length:Int)),cond_true,Ah h (by omega),e6,LB (H.small.fs.2 _ hmem) (H.gd.ok _ hmem).1 e4,hnn]
 have hE:BX (e.1,tup e.2.1[k]) ((e.2.1[k].2.2.2.2.2.2.2.2.1.length:Int),()) _ some=some (.inr (.inr (.inr ()))):=by
  unfold BX
  simp only[Int.lt_irrefl,decide_false,cond_false]
 have hsplit:∀(p:VM->Bool) (l:List VM),(dec (∀i,i<l.length->∃h:i<l.length,p l[i]=false))=!l.any p:=by
  intro p l
  cases hb:l.any p with
  |false=>
   rw[List.any_eq_false]at hb
   exact Ax fun i h=>⟨h,by simpa using hb _ (zQz h)⟩
  |true=>
   obtain⟨x,hx,hp⟩:=List.any_eq_true.1 hb
   obtain⟨i,hi,rfl⟩:=zJz hx
   exact AI fun h=>by obtain⟨_,h2⟩:=h i hi;rw[hp]at h2;cases h2
 cases h2:(e.2.1[k].2.1==2||e.2.1[k].2.1==4)
 ·have h2':=Bool.or_eq_false_iff.1 h2
  refine(BL (B:=fun v=>BX (e.1,tup e.2.1[k]) v _ some) (n:=e.2.1[k].2.2.2.2.2.2.2.2.1.length) (c:=fun _=>True) (X:=some (0,())) (no:=none) (fun i h=>⟨fun _=>?_,fun hn=>absurd trivial hn⟩) ⟨.inr (.inr ()),hE,rfl⟩).trans ?_
  ·refine(hD i h _ rfl).trans ?_
   simp only[h2'.1,h2'.2,cond_false]
   cases decide (crV (Ff e.1 e.2.1[k].2.2.2.2.2.2.2.2.1[i].1)>e.2.1[k].2.2.2.1)<;>rfl
  ·rw[Ax (fun i h=>trivial)]
   simp only[cond_true,h2'.1,h2'.2,cond_false]
   cases e.2.1[k].2.2.2.2.2.2.2.2.1.any _<;>rfl
 ·refine(BL (B:=fun v=>BX (e.1,tup e.2.1[k]) v _ some) (n:=e.2.1[k].2.2.2.2.2.2.2.2.1.length) (c:=fun i=>∃h:i<e.2.1[k].2.2.2.2.2.2.2.2.1.length,(fun m:VM=>decide (crV (Ff e.1 m.1)>e.2.1[k].2.2.2.1)) e.2.1[k].2.2.2.2.2.2.2.2.1[i]=false) (X:=some (0,())) (no:=some (bif e.2.1[k].2.1==2 then 2 else 3,())) (fun i h=>⟨fun hc=>?_,fun hn=>?_⟩) ⟨.inr (.inr ()),hE,rfl⟩).trans ?_
  ·obtain⟨_,hc⟩:=hc
   exact(hD i h false hc).trans rfl
  ·have hc:decide (crV (Ff e.1 e.2.1[k].2.2.2.2.2.2.2.2.1[i].1)>e.2.1[k].2.2.2.1)=true:=by
    cases hd:decide (crV (Ff e.1 e.2.1[k].2.2.2.2.2.2.2.2.1[i].1)>e.2.1[k].2.2.2.1)with
    |true=>rfl
    |false=>exact absurd ⟨h,hd⟩ hn
   cases h3:e.2.1[k].2.1==2
   ·have h4:(e.2.1[k].2.1==4)=true:=by rw[h3]at h2;exact h2
    exact⟨_,(hD i h true hc).trans (by simp only[zXj,cond_false,h3,h4,cond_true];rfl),rfl⟩
   ·exact⟨_,(hD i h true hc).trans (by simp only[zXj,cond_false,h3,cond_true];rfl),rfl⟩
  ·have hs:=hsplit (fun m:VM=>decide (crV (Ff e.1 m.1)>e.2.1[k].2.2.2.1)) e.2.1[k].2.2.2.2.2.2.2.2.1
   erw [hs]
   cases e.2.1[k].2.2.2.2.2.2.2.2.1.any _
   ·rfl
   ·cases h3:e.2.1[k].2.1==2
    ·have h4:(e.2.1[k].2.1==4)=true:=by rw[h3]at h2;exact h2
     simp only[h4,cond_true,cond_false,zXj]
    ·simp only[cond_true,cond_false,zXj]
omit ha in
theorem A61:IG ((e.1,()),tup e.2.1[k],())=some (rlP e.1 e.2.1[k],()):=by
 have hsm:=H.smT hk
 have hwr:=H.wrIn hk
 have htx:=Qm hsm
 simp only[tup]at htx
 unfold IG rlP
 simp only[N4 H.small.fs,Ax H.st,htx,H.txOk hk,zQk,zXj,cond_false]
 refine GQ (l:=e.2.1[k].2.2.2.2.2.2.2.1) (f:=fun n m=>mx n m.2.1) (X:=fun n=>(Au (fun v=>Dv (e.1,tup e.2.1[k]) v _ some) (n,0,())).bind fun p=>some (p.1,())) 0 (fun i h n=>?_) (fun n=>⟨(n,()),?_,rfl⟩) ?_
 ·unfold Es
  simp only[Ai h,zQk]
  rw[decide_eq_true (by omega),Ah h (by have:=hsm.1;omega)];rfl
 ·unfold Es
  simp only
  rw[decide_eq_false (by omega)];rfl
 ·refine GQ (l:=e.2.1[k].2.2.2.2.2.2.2.2.1) (f:=fun n m=>mx n (Mw (Ff e.1 m.1))) (X:=fun n=>some (n,())) _ (fun i h n=>?_) (fun n=>⟨(n,()),?_,rfl⟩) rfl
  ·obtain⟨n',hn,v,e1,e2,e3,e4,e5,e6,e7⟩:=H.ltst (hwr _ (zQz h))
   have hmem:=zQz hn
   unfold Dv
   simp only[tup,Ai h,zQk,e6,LB (H.small.fs.2 _ hmem) (H.gd.ok _ hmem).1 e4,e5,Mw]
   rw[decide_eq_true (by omega),Ah h (by have:=hsm.2;omega)];rfl
  ·unfold Dv
   simp only[tup]
   rw[decide_eq_false (by omega)];rfl
theorem rL (hst:e.2.2.2.2+1<=999):FN ((e.1,()),tup e.2.1[k],e.2.2.2.2+1,())=some (loP e.1 e.2.1[k],hiP e.1 e.2.1[k] (e.2.2.2.2+1),true,()):=by
 have hsm:=H.smT hk
 have hx:=(H.txA _ (zQz hk)).2.2.2 ha
 have hrl:=A61 H hk
 have hrh:=A62 H.small.fs H.st _ hsm (H.txOk hk) hx
 have hex:=Sz H.small.fs H.st hsm.1 hsm.2 (H.txOk hk) (H.rdIn hk)
 have ha':(e.2.1[k].2.2.1 != 1)=false:=by rw[ha];rfl
 have h0:=H.stamp0
 have hl:=H.last
 have hl0:0<=e.1.foldl Jv 0:=((Qu e.1 0).1 (Int.le_refl _)).1
 have hw:IntKind.i64.wrap (e.1.foldl Jv 0+1)=e.1.foldl Jv 0+1:=Bn (by omega) (by omega)
 have hi:inB (e.2.2.2.2+1) (e.1.foldl Jv 0+1) 999=true:=Br.2 ⟨by omega,hst⟩
 simp only[tup]at hrl
 unfold FN
 simp only[hex,Ax hx,zQk,zXj,cond_false,ha',Sw H.small.fs H.st,hw,DW,hi,hrl,hrh,loP,hiP]
omit ha in
theorem Zn:GK ((e.1,()),tup e.2.1[k],())=some (!OG e.1 e.2.1[k],()):=by
 have hwl:=(H.smT hk).2
 have hwr:=H.wrIn hk
 unfold GK
 have hsp:∀m∈e.2.1[k].2.2.2.2.2.2.2.2.1,∃(n:Nat) (hn:n<e.1.length),lAt e.1 m.1=some e.1[n]/\e.1[m.1.toNat]? =some e.1[n]:=fun m hm=>by
  obtain⟨n,hn,e1,e2,e3⟩:=Wv H.gd.six (hwr m hm)
  exact⟨n,hn,e2,e3⟩
 have he:=J0 (B:=fun v=>FI (e.1,tup e.2.1[k]) v _ some) (l:=e.2.1[k].2.2.2.2.2.2.2.2.1) (fun i=>((i:Int),())) (fun m=>match e.1[m.1.toNat]? with|some l=>decide (l.length>=50)|none=>false) (fd:=fun i=>.inl ()) (no:=.inr ()) (fun i h=>by
  obtain⟨n,hn,q1,q2⟩:=hsp _ (zQz h)
  have q3:decide ((e.1[n].length:Int)>=50)=decide (e.1[n].length>=50):=by
   rw[Bool.eq_iff_iff,decide_eq_true_eq,decide_eq_true_eq];omega
  unfold FI
  simp only[tup,Ai h,zQk,decide_eq_true (by omega:(i:Int)<(e.2.1[k].2.2.2.2.2.2.2.2.1.length:Int)),cond_true,Ah h (by omega),q1,q2,q3]
  cases decide (e.1[n].length>=50)<;>rfl) (by
  unfold FI
  simp only[tup,Int.lt_irrefl,decide_false,cond_false]) (t0:=(0,())) rfl
 erw [he]
 unfold OG
 cases hf:e.2.1[k].2.2.2.2.2.2.2.2.1.findIdx? (fun m=>match e.1[m.1.toNat]? with|some l=>decide (l.length>=50)|none=>false)with
 |none=>
  have:=congrArg Option.isSome hf
  rw[List.findIdx?_isSome]at this
  simp only[zQk,Ap]
  erw [this];rfl
 |some i=>
  have:=congrArg Option.isSome hf
  rw[List.findIdx?_isSome]at this
  simp only[zQk,Ap]
  erw [this];rfl
theorem de (st lo hi:Int):Em ((e.1,()),tup e.2.1[k],st,lo,hi,())=some (e.2.1[k].1,e.2.1[k].2.1,2,e.2.1[k].2.2.2.1,lo,hi,st,Qy e.1 e.2.1[k] st hi,e.2.1[k].2.2.2.2.2.2.2.1,e.2.1[k].2.2.2.2.2.2.2.2.1,()):=by
 have hsm:=H.smT hk
 have hwr:=H.wrIn hk
 have hrd:=H.rdIn hk
 have hx:=(H.txA _ (zQz hk)).2.2.2 ha
 have hwl:=SI ((DG _).1 (H.txOk hk)).2.1
 unfold Em Qy
 simp only[SB H.small.fs,OZ _ hsm,zQk]
 obtain⟨f1,f2⟩:=Nk (l:=e.2.1[k].2.2.2.2.2.2.2.1) (f:=Nz st) (Inv:=fun s i=>stOK s 0/\∀m∈e.2.1[k].2.2.2.2.2.2.2.1,I6 s m) (n0:=e.1)
  (B:=fun v=>DM (st,hi,e.2.1[k].1,e.2.1[k].2.1,e.2.1[k].2.2.1,e.2.1[k].2.2.2.1,e.2.1[k].2.2.2.2.1,e.2.1[k].2.2.2.2.2.1,e.2.1[k].2.2.2.2.2.2.1,e.2.1[k].2.2.2.2.2.2.2.1,e.2.1[k].2.2.2.2.2.2.2.2.1,0,0,0,0,0,0,0,e.2.1[k].1,e.2.1[k].2.1,2,e.2.1[k].2.2.2.1,lo,hi,st,e.2.1[k].2.2.2.2.2.2.2.1,e.2.1[k].2.2.2.2.2.2.2.2.1,()) v _ some)
  (fun i h s hI=>by
    obtain⟨_,hm,_⟩:=hrd i h
    obtain⟨a,h0,hlt,l,e1,e2,e3,hl⟩:=KV hI.1.1 hm
    obtain⟨l',j,x1,x2⟩:=hI.2 _ (zQz h)
    rw[e3]at x1;obtain rfl:l=l':=(by simpa using x1)
    have hj:=R3 x2
    have hls:=(hI.1.small (by omega)).2 _ hl
    have c1:(0:Int)<=(a:Int)/\(a:Int)<(s.length:Int):=by omega
    have c2:(0:Int)<=(j:Int)/\(j:Int)<(l.length:Int):=by omega
    unfold DM Nz
    simp only[decide_eq_true (by omega:(i:Int)<(e.2.1[k].2.2.2.2.2.2.2.1.length:Int)),cond_true,Ai h,zQk,h0,c1,and_self,if_true,zJj,zXz,e1,Sy hls,x2,fx,c2,zQx hj,Ah h (by have:=hsm.1;omega),e3,T9])
  (fun i h s hI=>⟨Ts st hI.1,fun m hm=>R4 st (hI.2 m hm)⟩)
  ⟨H.st.stOK,hx⟩
  (fun s=>by
    unfold DM
    simp only[Int.lt_irrefl,decide_false,cond_false])
 erw [f1]
 simp only[zQk]
 obtain⟨g1,g2⟩:=Nk (l:=e.2.1[k].2.2.2.2.2.2.2.2.1) (f:=Qa st e.2.1[k].1 hi) (Inv:=fun s i=>stOK s i) (n0:=e.2.1[k].2.2.2.2.2.2.2.1.foldl (Nz st) e.1)
  (B:=fun v=>Du (st,hi,e.2.1[k].1,e.2.1[k].2.1,e.2.1[k].2.2.1,e.2.1[k].2.2.2.1,e.2.1[k].2.2.2.2.1,e.2.1[k].2.2.2.2.2.1,e.2.1[k].2.2.2.2.2.2.1,e.2.1[k].2.2.2.2.2.2.2.1,e.2.1[k].2.2.2.2.2.2.2.2.1,0,0,0,0,0,0,0,e.2.1[k].1,e.2.1[k].2.1,2,e.2.1[k].2.2.2.1,lo,hi,st,e.2.1[k].2.2.2.2.2.2.2.1,e.2.1[k].2.2.2.2.2.2.2.2.1,()) v _ some)
  (fun i h s hI=>by
    obtain⟨a,h0,hlt,l,e1,e2,e3,hl⟩:=KV hI.1 (hwr _ (zQz h))
    have h5:=hI.2 l hl
    have hjl:l.length-1<l.length:=by omega
    have c1:(0:Int)<=(a:Int)/\(a:Int)<(s.length:Int):=by omega
    have c2:(0:Int)<=(l.length:Int)-1/\(l.length:Int)-1<(l.length:Int):=by omega
    have hj:((l.length:Int)-1).toNat=l.length-1:=by omega
    have c4:l.length+1<=879609302220:=by omega
    unfold Du Qa
    simp only[decide_eq_true (by omega:(i:Int)<(e.2.1[k].2.2.2.2.2.2.2.2.1.length:Int)),cond_true,Ai h,zQk,h0,c1.1,c1.2,true_and,and_self,if_true,zJj,zXz,e1,J5 (by omega:l.length<9223372036854775808),c2.1,c2.2,hj,zQx hjl,List.length_set,JG hlt,KO,zJk,zXk,List.length_nil,c4,Ah h (by have:=hsm.2;omega),e3,ta,zQq,Nat.zero_lt_one])
  (fun i h s hI=>Tq st _ hi hI)
  f2.1
  (fun s=>by
    unfold Du
    simp only[Int.lt_irrefl,decide_false,cond_false])
 erw [g1]
 rfl
end
end Go.Ab
end
section
namespace Go.Ab
theorem Wa {e:EG}(H:OkG e){k:Nat}(hk:k<e.2.1.length)(ha:e.2.1[k].2.2.1=1)(ce:Bool):
 HJ ((k:Int),JA ce e)=some ((Jt ce e k).1,ce,(Jt ce e k).2.2.2.2.2,(Jt ce e k).2.2.1,(Jt ce e k).2.1,(Jt ce e k).2.2.2.1,(Jt ce e k).2.2.2.2.1,()):=by
 have hs:=H.small
 have hst0:=H.stamp0
 have hst1:=H.stamp
 have c0:(0:Int)<=(k:Int)/\(k:Int)<(e.2.1.length:Int):=by omega
 have hcc:=A68 H hk ha
 have hft:=Zn H hk
 have hin:=de H hk ha
 simp only[tup]at hcc hft hin
 unfold HJ Jt JA
 simp only[c0,and_self,if_true,zJj,zXz,zQx hk,zQk,hcc]
 cases hc:(Nq e.1 e.2.1[k]==0)
 ·simp only[cond_false,Bool.not_false,cond_true,JT hk hs.fk hs.fw ce ha,zQk,Ko,Gw]
 ·have hc':Nq e.1 e.2.1[k]=0:=by simpa using hc
  simp only[cond_true,zXj,cond_false]
  cases h9:(e.2.2.2.2==999)
  ·have h9':e.2.2.2.2≠999:=by simpa using h9
   have hw:IntKind.i64.wrap (e.2.2.2.2+1)=e.2.2.2.2+1:=Bn (by omega) (by omega)
   have hfw:=rL H hk ha (by omega)
   simp only[tup]at hfw
   simp only[cond_false,hc',beq_self_eq_true,cond_true,GU,FX,zQx hk,zQk,hw,hfw,hft,hin,zXj,cond_false]
   have hge:decide (hiP e.1 e.2.1[k] (e.2.2.2.2+1)<=loP e.1 e.2.1[k])=decide (loP e.1 e.2.1[k]>=hiP e.1 e.2.1[k] (e.2.2.2.2+1)):=rfl
   have hkset:k<(e.2.1.set k (Nu e.2.1[k] (loP e.1 e.2.1[k]) (hiP e.1 e.2.1[k] (e.2.2.2.2+1)) (e.2.2.2.2+1))).length:=by simpa using hk
   have hend:=dh (e:=(Qy e.1 e.2.1[k] (e.2.2.2.2+1) (hiP e.1 e.2.1[k] (e.2.2.2.2+1)),e.2.1.set k (Nu e.2.1[k] (loP e.1 e.2.1[k]) (hiP e.1 e.2.1[k] (e.2.2.2.2+1)) (e.2.2.2.2+1)),e.2.2.1,e.2.2.2.1,e.2.2.2.2+1)) hkset hs.fk hs.fw ce (by simp[Nu])
   simp only[Nu,List.getElem_set_self]at hend
   rw[hge]
   cases ce
   ·simp only[cond_false,Bool.false_and,Bool.false_or]
    cases OG e.1 e.2.1[k]
    ·simp only[Bool.not_false,zXj,cond_false,cond_true,Td,zQk,c0.1,c0.2,and_self,if_true,zJj,zXz,zQx hk,hend,Ko,Nu]
    ·simp only[zXj,Bool.not_false,cond_true,cond_false,Td,JT hk hs.fk hs.fw _ ha,zQk,Ko,Gw]
   ·simp only[cond_true,Bool.true_and]
    cases decide (loP e.1 e.2.1[k]>=hiP e.1 e.2.1[k] (e.2.2.2.2+1))
    ·simp only[cond_false,Bool.false_or]
     cases OG e.1 e.2.1[k]
     ·simp only[Bool.not_false,zXj,cond_false,cond_true,Td,zQk,c0.1,c0.2,and_self,if_true,zJj,zXz,zQx hk,hend,Ko,Nu]
     ·simp only[zXj,Bool.not_false,cond_true,cond_false,Td,JT hk hs.fk hs.fw _ ha,zQk,Ko,Gw]
    ·simp only[cond_true,Bool.true_or,Td,cond_false,JT hk hs.fk hs.fw _ ha,zQk,Ko,Gw]
  ·simp only[cond_true]
theorem A5z {e:EG}(hs:SmallE e.1 e.2.1 e.2.2.1 e.2.2.2.1)(ce:Bool)(o:OPt):
 IE ((ce,(e.1,()),e.2.1,e.2.2.1,e.2.2.2.1,e.2.2.2.2,()),o,())=bif okE e.1 e.2.1 e.2.2.1 e.2.2.2.1 e.2.2.2.2&&N9 o then(let r:=JR ce e o;some (ce,r.2.2.2.2.2.2,r.1,r.2.2.1,r.2.2.2.1,r.2.2.2.2.1,r.2.2.2.2.2.1,r.2.1,()))else some (ce,e.2.2.2.2,6,e.1,e.2.1,e.2.2.1,e.2.2.2.1,[],()):=by
 unfold IE
 have hop:=Zl o
 simp only[Zp hs,qz hs,Zo hs.fl,zQk]
 cases hE:okE e.1 e.2.1 e.2.2.1 e.2.2.2.1 e.2.2.2.2
 ·simp only[Bool.not_false,cond_true,Bool.false_and,cond_false]
 ·simp only[zXj,cond_false,Bool.true_and]
  erw [hop]
  simp only[zQk]
  cases ho:N9 o
  ·simp only[Bool.not_false,cond_true,cond_false]
  ·have H:=(qD e).1 hE
   obtain⟨o1,o2,o3,o4,o5,o6⟩:=(SJ o).1 ho
   simp only[zXj,cond_false,cond_true,A81]
   unfold JR
   cases h1:(o.1==1)
   ·simp only[cond_false]
    rcases A8s H o.2.1 with⟨ha,k,hk,hf,h2,h3⟩|ha
    ·have hw:=H.wake o.2.1
     have hwk:=cY (l:=e.2.2.2.1) hs.fw o.2.1
     have h2':(e.2.1[k].2.2.1 != 1)=false:=by rw[h2];rfl
     have kR:=Su hw (k:=k) hk h2 (key:=o.2.2.2.1) (ce:=ce)
     have kS:=cZ hw (k:=k) hk h2 (lo:=o.2.2.2.1) (hi:=o.2.2.2.2.1) (ce:=ce)
     have kW:=fun h h'=>Zg hw (k:=k) hk h2 (key:=o.2.2.2.1) (val:=o.2.2.2.2.2.1) h h' o.1 o.2.1 o.2.2.1 o.2.2.2.2.1 ce
     have kC:=Wa hw (k:=k) hk h2 ce
     have kE:=JT (e:=(e.1,e.2.1,e.2.2.1,wkW e.2.2.2.1 o.2.1,e.2.2.2.2)) hk hs.fk hw.small.fw ce h2
     simp only[JA]at kR kS kW kC kE
     simp only[hf,ha,Option.isNone_some,cond_true,show(!(false==false))=false from rfl,cond_false,fx,Ai hk,zQk,h2',hwk]
     cases h4:(o.1==2)
     ·simp only[cond_false]
      cases h5:(o.1==4)
      ·simp only[cond_false]
       cases h6:(o.1==3)
       ·simp only[cond_false]
        cases h7:(o.1==5)
        ·simp only[cond_false,zQx hk]
         erw [kE]
         rfl
        ·simp only[cond_true]
         erw [kC]
         rfl
       ·simp only[h6,Bool.or_true,Bool.true_or,cond_true]at o4 o6
        simp only[cond_true]
        erw [kW o4 o6]
        rfl
      ·simp only[h5,Bool.or_true,cond_true]at o4 o5
       rw[Br]at o4 o5
       simp only[cond_true]
       erw [kS o4.1 (by omega) o5.2]
       rfl
     ·simp only[h4,Bool.true_or,cond_true]at o4
      simp only[cond_true]
      erw [kR o4]
      simp only[zQk,Fu]
      cases hz:(Hr (e.1,e.2.1,e.2.2.1,wkW e.2.2.2.1 o.2.1,e.2.2.2.2) k o.2.2.2.1).2.1==0 with
      |false=>rfl
      |true=>
       have hz':(Hr (e.1,e.2.1,e.2.2.1,wkW e.2.2.2.1 o.2.1,e.2.2.2.2) k o.2.2.2.1).2.1=0:=by simpa using hz
       simp only[hz']
       rfl
    ·cases hf:e.2.1.findIdx? (fun t=>t.1==o.2.1)with
     |none=>simp only[ha,Bool.not_false,Option.isNone_none,show(!(false==true))=true from rfl,cond_true]
     |some k=>
      obtain⟨hk,h2,h3⟩:=List.findIdx?_eq_some_iff_getElem.1 hf
      have h2':(e.2.1[k].2.2.1 != 1)=true:=by
       cases hx:(e.2.1[k].2.2.1==1)with
       |false=>simp only[bne,hx,Bool.not_false]
       |true=>
        rw[(KY H.txU o.2.1).2 ⟨_,zQz hk,by simpa using h2,by simpa using hx⟩]at ha
        cases ha
      simp only[ha,Bool.not_false,Option.isNone_some,show(!(false==false))=false from rfl,cond_false,fx,Ai hk,zQk,h2',cond_true]
   ·simp only[h1,cond_true]at o3
    have hst:inB e.2.2.2.2 0 999=true:=Br.2 ⟨H.stamp0,H.stamp⟩
    have hT:okT o.2.1 o.2.2.1 1 e.2.2.2.2 0 1000 0 [] []=true:=ZR o2 o3 hst
    have hn:FY (o.2.1,o.2.2.1,e.2.2.2.2,())=some (o.2.1,o.2.2.1,1,e.2.2.2.2,0,1000,0,true,()):=by
     unfold FY
     simp only[Qn (rd:=[]) (wr:=[]) (Nat.zero_le _) (Nat.zero_le _),hT,zQk,zXj,cond_false]
    have h6:((e.2.1.length:Int)==6)=(e.2.1.length==6):=by rw[Bool.eq_iff_iff,beq_iff_eq,beq_iff_eq];omega
    have hany:(e.2.1.findIdx? fun t=>t.1==o.2.1).isNone=!(e.2.1.any fun t=>t.1==o.2.1):=by
     rw[<-List.findIdx?_isSome];cases e.2.1.findIdx? _<;>rfl
    unfold LM
    simp only[cond_true,hany,h6,hn,zQk]
    cases hh:(e.2.1.any fun t=>t.1==o.2.1)
    ·simp only[Bool.not_false,show(!(true==true))=false from rfl,cond_false,Bool.false_or]
     cases h7:(e.2.1.length==6)
     ·simp only[cond_false]
      refine(Oj (l:=e.2.1) (p:=fun x=>decide (x.1<o.2.1)) hs.fl (fun i h=>?_) ?_ _).trans ?_
      ·have c:(0:Int)<=(i:Int)/\(i:Int)<(e.2.1.length:Int):=by omega
       unfold E7
       simp only[decide_eq_true c.2,cond_true,c.1,c.2,and_self,if_true,zJj,zXz,zQx h,zQk,Ah h (by have:=hs.fl;omega)]
       cases decide (e.2.1[i].1<o.2.1)<;>rfl
      ·unfold E7
       simp only[Int.lt_irrefl,decide_false,cond_false]
      ·have hle:=WR (l:=e.2.1) (p:=fun x=>decide (x.1<o.2.1))
       have hfl:=hs.fl
       rw[aO H]at hh
       generalize hc:(e.2.1.takeWhile fun x=>decide (x.1<o.2.1)).length=c at hle
       rw[Ql (m:=Nx o.2.1 o.2.2.1 e.2.2.2.2) hc]
       have q1:(e.2.1.take c).length<=338311270084:=by simp;omega
       have q2:(e.2.1.take c++[Nx o.2.1 o.2.2.1 e.2.2.2.2]).length<=338311270084:=by simp;omega
       have q3:(e.2.1.take c++[Nx o.2.1 o.2.2.1 e.2.2.2.2]++e.2.1.drop c).length<=338311270084:=by simp;omega
       have c1:(0:Int)<=0/\(0:Int)<=(c:Int)/\(c:Int)<=(e.2.1.length:Int):=by omega
       have c2:(0:Int)<=(c:Int)/\(c:Int)<=(e.2.1.length:Int)/\(e.2.1.length:Int)<=(e.2.1.length:Int):=by omega
       have hh':Fs (fun x:TX=>x.1) e.2.1 (Nx o.2.1 o.2.2.1 e.2.2.2.2).1=false:=hh
       simp only[Amp,Amo]
       rw[if_pos c1,if_pos q1]
       erw [if_pos q2]
       rw[if_pos c2]
       erw [if_pos q3]
       simp only[hh',cond_false]
       rfl
     ·simp only[cond_true]
    ·simp only[zXj,show(!(true==false))=true from rfl,cond_true,Bool.true_or]
end Go.Ab
end
section
namespace Go.Ab
end Go.Ab
end
section
namespace Go.Ab
end Go.Ab
end
section
namespace Go.Ab
theorem Aln (v:OPt):LX (v,v,())=some (true,()):=by
 simp[LX]
theorem Aey (a:List OPt)(ha:a.length<9223372036854775000):Lm (a,a,())=some (true,()):=by
 unfold Lm
 simp only[bne_self_eq_false,cond_false]
 refine Kd a.length (fun j=>((j:Int),())) rfl (fun j hj=>?_) ⟨.inr (),?_,rfl⟩
 ·unfold It
  simp only[Ai hj,zQk,Aln]
  rw[decide_eq_true (by omega),wr1 (by omega) (by omega)]
  rfl
 ·unfold It
  simp only
  rw[decide_eq_false (by omega)]
  rfl
theorem Aeo (a:List OPt)(ha:a.length<=1048576):Lk (a,())=some (a,()):=by
 unfold Lk
 simp only
 rw[if_pos (by omega),zXz]
 refine SV ha (fun i h out ho=>?_) fun out=>?_
 ·unfold Iq
  simp only[Ai h,zQk,Ow]
  rw[decide_eq_true (by omega),if_pos (by omega),Ah h (by omega)]
  simp[ho,h]
 ·unfold Iq
  simp only
  rw[decide_eq_false (by omega)];rfl
theorem Aep {a:List OPt}{l:Int}(ha:a.length<=maxLen)(h0:0<=l)(h1:l<=1048576):WN (a.length<=1048576) (Ll (a,l,())):=A91 ha h0 h1
end Go.Ab
end
section
namespace Go.Ab
def cPb (l:List OPt)(i:Nat):Bool:=match l[i]?,l[0]? with
 |some a,some b=>N9 a&&!(a.2.1 != b.2.1)&&((a.1==1)==((i:Int)==0))&&((a.1==5||a.1==6)==((i:Int)==(l.length:Int)-1))
 |_,_=>false
noncomputable def Lc (l:List OPt):Bool:=inB (l.length:Int) 2 12&&dec (∀i,i<l.length->cPb l i=true)
theorem dW {l:List OPt}{i:Nat}(h:i<l.length):cPb l i=(N9 l[i]&&!(l[i].2.1 != (l[0]'(by omega)).2.1)&&((l[i].1==1)==((i:Int)==0))&&((l[i].1==5||l[i].1==6)==((i:Int)==(l.length:Int)-1))):=by
 unfold cPb
 rw[zQx h,zQx (show 0<l.length by omega)]
theorem Anj {α:Type}{l:List α}(h:0<l.length):lAt l 0=some l[0]:=Ai (i:=0) h
theorem dq {l:List OPt}(hl:l.length<=1048576):HA (l,())=some (Lc l,()):=by
 unfold HA Lc
 simp only[Ij,zQk]
 cases inB (l.length:Int) 2 12
 ·rfl
 ·simp only[zXj,cond_false,Bool.true_and]
  refine(BL (n:=l.length) (c:=fun i=>cPb l i=true) (X:=some (true,())) (no:=some (false,())) (fun i hi=>?_) ⟨.inr (.inr (.inr (.inr (.inr (.inr (.inr (.inr ()))))))),?_,rfl⟩).trans ?_
  ·have hop:FD ((l[i].1,l[i].2.1,l[i].2.2.1,l[i].2.2.2.1,l[i].2.2.2.2.1,l[i].2.2.2.2.2.1,()),())=some (N9 l[i],()):=A6i l[i]
   unfold F5
   simp only[Ai hi,Anj (show 0<l.length by omega),zQk,hop,Bn (n:=(l.length:Int)-1) (by omega) (by omega),dW hi]
   rw[decide_eq_true (by omega),Ah hi (by omega)]
   simp only[cond_true]
   generalize N9 l[i]=b1
   generalize (l[i].2.1 != (l[0]'(by omega)).2.1)=b2
   generalize ((l[i].1==1)==((i:Int)==0))=b3
   generalize (l[i].1==5)=k5
   generalize (l[i].1==6)=k6
   generalize ((i:Int)==(l.length:Int)-1)=z
   cases b1<;>cases b2<;>cases b3<;>cases k5<;>cases k6<;>cases z<;>first
    |exact⟨fun _=>rfl,fun h=>absurd rfl h⟩
    |exact⟨fun h=>absurd h (by decide),fun _=>by refine⟨_,rfl,?_⟩;rfl⟩
  ·unfold F5
   simp only
   rw[decide_eq_false (by omega)];rfl
  ·cases dec (∀i,i<l.length->cPb l i=true)<;>rfl
theorem da {l:List OPt}(hl:l.length<=1048576):Jc (l,())=some (Lc l,()):=by
 unfold Jc Lc
 simp only[DW]
 refine(BL (n:=l.length) (c:=fun i=>cPb l i=true) (X:=some (inB (l.length:Int) 2 12,())) (no:=some (false,())) (fun i hi=>?_) ⟨.inr (.inr (.inr (.inr (.inr (.inr (.inr (.inr ()))))))),?_,rfl⟩).trans ?_
 ·have hop:Eu ((l[i].1,l[i].2.1,l[i].2.2.1,l[i].2.2.2.1,l[i].2.2.2.2.1,l[i].2.2.2.2.2.1,()),())=some (N9 l[i],()):=Zl l[i]
  unfold EM
  simp only[Ai hi,Anj (show 0<l.length by omega),zQk,hop,Bn (n:=(l.length:Int)-1) (by omega) (by omega),dW hi]
  rw[decide_eq_true (by omega),Ah hi (by omega)]
  simp only[cond_true]
  generalize N9 l[i]=b1
  generalize (l[i].2.1 != (l[0]'(by omega)).2.1)=b2
  generalize ((l[i].1==1)==((i:Int)==0))=b3
  generalize (l[i].1==5)=k5
  generalize (l[i].1==6)=k6
  generalize ((i:Int)==(l.length:Int)-1)=z
  cases b1<;>cases b2<;>cases b3<;>cases k5<;>cases k6<;>cases z<;>first
   |exact⟨fun _=>rfl,fun h=>absurd rfl h⟩
   |exact⟨fun h=>absurd h (by decide),fun _=>by refine⟨_,rfl,?_⟩;rfl⟩
 ·unfold EM
  simp only
  rw[decide_eq_false (by omega)];rfl
 ·cases dec (∀i,i<l.length->cPb l i=true)<;>cases inB (l.length:Int) 2 12<;>rfl
theorem P6 {l:List OPt}(h:Lc l=true):l.length<=12/\∀o∈l,N9 o=true:=by
 unfold Lc at h
 rw[zJq]at h
 have h1:=Br.1 h.1
 have h2:=Mi h.2
 refine⟨by omega,fun o ho=>?_⟩
 obtain⟨i,hi,rfl⟩:=zJz ho
 have h3:=h2 i hi
 rw[dW hi]at h3
 simp only[zJq]at h3
 exact h3.1.1.1
def QB (t:List TX)(c:Int):List Int:=(t.filter fun x=>x.2.2.1==c).map (·.1)
theorem ak (t:List TX)(c:Int)(n:Nat):(QB (t.take n) c).length<=t.length:=by
 unfold QB
 rw[List.length_map]
 refine Nat.le_trans (List.length_filter_le ..) ?_
 simp;omega
theorem U1 {t:List TX}{c:Int}{i:Nat}(h:i<t.length):QB (t.take (i+1)) c=bif t[i].2.2.1==c then QB (t.take i) c++[t[i].1]else QB (t.take i) c:=by
 unfold QB
 rw[<-List.take_append_getElem h,List.filter_append,List.map_append]
 cases hc:t[i].2.2.1==c<;>simp[List.filter,hc]
theorem SC {t:List TX}(ht:t.length<=1048576)(ce:Bool)(s:List (List VV))(lk wt:List VM)(stamp c:Int):FZ ((ce,(s,()),t,lk,wt,stamp,()),c,())=some (QB t c,()):=by
 unfold FZ
 simp only
 refine Kd t.length (fun i=>((i:Int),QB (t.take i) c,())) rfl (fun i h=>?_) ⟨(QB t c,()),?_,rfl⟩
 ·unfold D4
  simp only[Ai h,zQk,U1 h]
  rw[decide_eq_true (by omega),Ah h (by omega)]
  have h1:=ak t c i
  cases t[i].2.2.1==c
  ·rfl
  ·simp only[cond_true]
   rw[if_pos (by simp;omega)]
 ·unfold D4
  simp only[List.take_length]
  rw[decide_eq_false (by omega)];rfl
theorem Ss {t:List TX}(ht:t.length<=1048576)(ce:Bool)(s:List (List VV))(lk wt:List VM)(stamp c:Int):Ei ((ce,(s,()),t,lk,wt,stamp,()),c,())=some (QB t c,()):=by
 unfold Ei
 simp only
 refine Kd t.length (fun i=>((i:Int),QB (t.take i) c,())) rfl (fun i h=>?_) ⟨(QB t c,()),?_,rfl⟩
 ·unfold D0
  simp only[Ai h,zQk,U1 h]
  rw[decide_eq_true (by omega),Ah h (by omega)]
  have h1:=ak t c i
  cases t[i].2.2.1==c
  ·rfl
  ·simp only[cond_true]
   rw[if_pos (by simp;omega)]
 ·unfold D0
  simp only[List.take_length]
  rw[decide_eq_false (by omega)];rfl
end Go.Ab
end
section
namespace Go.Ab
def dH:List (List VV):=zKq 6 [(0,-1,0,0,1000,())]
theorem Alk:JF ()=some (dH,()):=by
 unfold JF
 refine Kd 6 (fun j=>((j:Int),zKq j [(0,-1,0,0,1000,())],())) rfl (fun j hj=>?_) ⟨(dH,()),?_,rfl⟩
 ·unfold Hj
  simp only[zJk,List.length_replicate,zXk,List.length_nil]
  rw[decide_eq_true (by omega),if_pos (by omega),wr1 (by omega) (by omega),<-List.replicate_succ']
  rfl
 ·rfl
theorem All:JK ()=some (dH,()):=by
 unfold JK
 refine Kd 6 (fun j=>((j:Int),zKq j [(0,-1,0,0,1000,())],())) rfl (fun j hj=>?_) ⟨(dH,()),?_,rfl⟩
 ·unfold Hy
  simp only[zJk,List.length_replicate,zXk,List.length_nil]
  rw[decide_eq_true (by omega),if_pos (by omega),wr1 (by omega) (by omega),<-List.replicate_succ']
  rfl
 ·rfl
def se:EG:=(dH,[],[],[],0)
theorem qE:OkG se:=by
 have h1:LQ [((0,-1,0,0,1000,()):VV)]:=(KG _).2 ⟨fun v hv=>by rw[List.mem_singleton]at hv;subst hv;rfl,List.pairwise_singleton _ _,_,rfl,rfl⟩
 refine⟨⟨rfl,fun l hl=>?_⟩,by decide,by decide,?_,List.Pairwise.nil,?_,List.Pairwise.nil,?_,List.Pairwise.nil,by decide,?_,?_⟩
 ·have:l=[((0,-1,0,0,1000,()):VV)]:=List.eq_of_mem_replicate hl
  subst this
  exact⟨h1,by decide⟩
 all_goals intro m hm;cases hm
theorem db (ce:Bool):Jb (ce,())=some (ce,0,dH,()):=by
 unfold Jb
 rw[Alk];rfl
theorem dr (ce:Bool):Jl (ce,())=some (ce,0,dH,()):=by
 unfold Jl
 rw[All];rfl
end Go.Ab
end
section
namespace Go.Ab
def eh (a:List OPt):Prop:=a.length<=1048576
def Nt (a:List (List OPt)):Prop:=a.length<=1048576/\∀e∈a,eh e
theorem A5t (a:List (List OPt))(ha:Nt a):Ir (a,())=some (a,()):=by
 have hn:=ha.1
 unfold Ir
 simp only
 rw[if_pos (by omega),zXz]
 refine SV hn (fun i h out ho=>?_) fun out=>?_
 ·unfold Hs
  simp only[Ai h,zQk,Aeo _ (ha.2 _ (zQz h))]
  rw[decide_eq_true (by omega),if_pos (by omega),Ah h (by omega)]
  simp[ho,h]
 ·unfold Hs
  simp only
  rw[decide_eq_false (by omega)];rfl
theorem A5u {a:List (List OPt)}{l:Int}(ha:a.length<=maxLen)(hb:∀e∈a,e.length<=maxLen)(h0:0<=l)(h1:l<=1048576):WN (Nt a) (Mf (a,l,())):=
 sY (Small:=eh) (F:=fun e l=>Ll (e,l,())) ha (fun e he l h0 h1=>Aep (hb e he) h0 h1) (fun l i=>rfl) h0 h1
theorem A6s (a:List (List OPt))(ha:a.length<9223372036854775000)(hb:∀r∈a,r.length<9223372036854775000):KJ (a,a,())=some (true,()):=by
 unfold KJ
 simp only[bne_self_eq_false,cond_false]
 refine Kd a.length (fun j=>((j:Int),())) rfl (fun j hj=>?_) ⟨.inr (),?_,rfl⟩
 ·unfold Ht
  simp only[Ai hj,zQk,Aey _ (hb _ (zQz hj))]
  rw[decide_eq_true (by omega),wr1 (by omega) (by omega)]
  rfl
 ·unfold Ht
  simp only
  rw[decide_eq_false (by omega)]
  rfl
end Go.Ab
end
section
namespace Go.Ab
def idP (l:List OPt):Int:=match l with|o::_=>o.2.1|[]=>0
noncomputable def ZN:List Int->List (List OPt)->Bool
 |_,[]=>true
 |kn,l::r=>Lc l&&!(kn.contains (idP l))&&ZN (idP l::kn) r
noncomputable def Qp (p:List (List OPt)):Bool:=ZN [] p&&decide ((p.length:Int)<=6)
theorem QV {l:List OPt}(h:Lc l=true):2<=l.length:=by
 unfold Lc at h
 rw[zJq]at h
 have h1:=Br.1 h.1
 omega
theorem Alp (p:List (List OPt))(h:∀l∈p,l.length<=1048576):∀kn,aM HA kn p=some (ZN kn p):=by
 induction p with
 |nil=>intro kn;rfl
 |cons l r ih=>
  intro kn
  have hl:=h l (zKj ..)
  unfold aM
  have hp:=dq hl
  erw [hp]
  simp only[zQk,ZN]
  cases ho:Lc l
  ·rfl
  ·have h2:=QV ho
   match l,ho,h2 with
   |o::t,ho,h2=>
    have hb:=(Br.1 ((SJ o).1 ((P6 ho).2 o (zKj ..))).2.1)
    simp only[zXj,cond_false,Bool.true_and]
    rw[if_pos (by omega)]
    simp only[idP]
    cases kn.contains o.2.1
    ·simp only[cond_false,Bool.not_false,Bool.true_and]
     exact ih (fun e he=>h e (List.mem_cons_of_mem _ he)) _
    ·rfl
theorem SE {p:List (List OPt)}(h:Nt p):FU (p,())=some (Qp p,()):=by
 have e:=Alp p h.2 []
 have hn:=h.1
 unfold FU A8q Qp
 rw[if_pos (by simp only;omega)]
 erw [e]
 rfl
theorem qM {l:List OPt}(h:2<=l.length):∃o,lAt l 0=some o/\o.2.1=idP l/\l[0]? =some o:=by
 match l,h with
 |o::t,_=>exact⟨o,rfl,rfl,rfl⟩
theorem Sv {p:List (List OPt)}(h:Nt p):FL (p,())=some (Qp p,()):=by
 have hn:=h.1
 unfold FL Qp
 simp only
 have key:∀(rs pre:List (List OPt)),pre++rs=p->(∀l∈pre,Lc l=true)->
  ((Au (fun v=>C9 (p,()) v _ some) ((pre.length:Int),())).bind fun q=>Ap q (fun _=>some (false,())) fun q=>Ap q (fun _=>some (false,())) fun _=>some (decide ((p.length:Int)<=6),()))=some (ZN (pre.map idP).reverse rs&&decide ((p.length:Int)<=6),()):=by
  intro rs
  induction rs with
  |nil=>
   intro pre hp ho
   rw[List.append_nil]at hp
   rw[AF]
   have hB:C9 (p,()) ((pre.length:Int),()) _ some=some (.inr (.inr (.inr ()))):=by
    unfold C9
    simp only
    rw[decide_eq_false (by rw[hp];omega)]
    rfl
   rw[hB]
   rfl
  |cons l rs ih=>
   intro pre hp ho
   have hi:pre.length<p.length:=by rw[<-hp];simp
   have hgl:p[pre.length]? =some l:=by rw[<-hp];simp
   have hg:lAt p (pre.length:Int)=some l:=by
    rw[Ai hi];rw[zQx hi]at hgl;exact hgl
   have hl:l.length<=1048576:=h.2 l (by rw[<-hp];simp)
   rw[AF]
   have hB:C9 (p,()) ((pre.length:Int),()) _ some=bif Lc l then(bif (pre.map idP).reverse.contains (idP l)then some (.inr (.inr (.inl ())))else some (.inl ((pre.length:Int)+1,())))else some (.inr (.inl ())):=by
    unfold C9
    simp only[hg,zQk,da hl]
    rw[decide_eq_true (by omega),wr1 (by omega) (by omega)]
    cases hol:Lc l
    ·rfl
    ·simp only[zXj,cond_false,cond_true]
     obtain⟨o,w1,w2,w3⟩:=qM (QV hol)
     refine(BL (n:=pre.length) (c:=fun k=>¬idP (p.getD k [])=idP l) (X:=some (.inl ((pre.length:Int)+1,()))) (no:=some (.inr (.inr (.inl ())))) (fun k hk=>?_) ⟨.inr (),?_,rfl⟩).trans ?_
     ·have hkp:k<p.length:=by omega
      have hpk:p[k]∈pre:=by
       have:p[k]=pre[k]:=by simp only[<-hp];rw[List.getElem_append_left hk]
       rw[this];exact zQz hk
      obtain⟨o2,y1,y2,y3⟩:=qM (QV (ho _ hpk))
      have e3:p.getD k []=p[k]:=by simp[List.getD,hkp]
      unfold E6
      simp only[Ai hkp,zQk,y1,hg,w1,e3,y2,w2]
      rw[decide_eq_true (by omega),Ah hk (by omega)]
      simp only[cond_true]
      constructor
      ·intro hc
       rw[show(idP p[k]==idP l)=false from beq_false_of_ne hc];rfl
      ·intro hc
       rw[show(idP p[k]==idP l)=true from beq_iff_eq.2 (Decidable.not_not.1 hc)]
       refine⟨.inl (),rfl,rfl⟩
     ·unfold E6
      simp only
      rw[decide_eq_false (by omega)];rfl
     ·have e4:dec (∀k,k<pre.length->¬idP (p.getD k [])=idP l)=!((pre.map idP).reverse.contains (idP l)):=by
       cases hc:(pre.map idP).reverse.contains (idP l)
       ·rw[Ax];· rfl
        intro k hk e
        have:(pre.map idP).reverse.contains (idP l)=true:=by
         rw[List.contains_iff_mem]
         rw[List.mem_reverse,List.mem_map]
         refine⟨pre[k],zQz hk,?_⟩
         rw[<-e];congr 1
         simp only[<-hp,List.getD_eq_getElem?_getD]
         rw[List.getElem?_append_left hk,zQx hk];rfl
        rw[hc]at this;cases this
       ·rw[AI];· rfl
        intro hall
        rw[List.contains_iff_mem,List.mem_reverse,List.mem_map]at hc
        obtain⟨a,ha,e⟩:=hc
        obtain⟨k,hk,rfl⟩:=zJz ha
        refine hall k hk ?_
        rw[<-e];congr 1
        simp only[<-hp,List.getD_eq_getElem?_getD]
        rw[List.getElem?_append_left hk,zQx hk];rfl
      rw[e4]
      cases(pre.map idP).reverse.contains (idP l)<;>rfl
   rw[hB]
   simp only[ZN]
   cases hol:Lc l
   ·rfl
   ·cases hc:(pre.map idP).reverse.contains (idP l)
    ·simp only[cond_true,cond_false,zQk,Bool.not_false,Bool.true_and]
     have:=ih (pre++[l]) (by rw[<-hp];simp) (fun e he=>by
      rcases List.mem_append.1 he with he|he
      ·exact ho e he
      ·rw[List.mem_singleton]at he;rw[he];exact hol)
     simp only[zJk,zXk,List.length_nil,zJj,Int.natCast_add,List.map_append,List.map_cons,List.map_nil,List.reverse_append,List.reverse_cons,List.reverse_nil,List.nil_append,List.singleton_append]at this
     exact this
    ·rfl
 exact key p [] rfl (fun l hl=>by cases hl)
theorem ZM:∀(p:List (List OPt)) (kn:List Int),ZN kn p=true->∀l∈p,Lc l=true
 |[],_,_,l,hl=>by cases hl
 |a::r,kn,h,l,hl=>by
  simp only[ZN,zJq]at h
  rcases List.mem_cons.1 hl with rfl|hl
  ·exact h.1.1
  ·exact ZM r _ h.2 l hl
theorem MF {p:List (List OPt)}(h:Qp p=true):p.length<=6/\∀l∈p,Lc l=true:=by
 unfold Qp at h
 rw[zJq,decide_eq_true_eq]at h
 exact⟨by omega,ZM p [] h.1⟩
end Go.Ab
end
section
namespace Go.Ab
noncomputable section
abbrev RS:=EG×List OPt×List Int
def rfS (ce:Bool)(p:List (List OPt))(s:RS)(k:Nat):RS:=match p[k]?,s.2.2[k]? with
 |some l,some a=>bif a==(l.length:Int)then s else(match l[a.toNat]? with
  |some o=>((JR ce s.1 o).2.2,s.2.1++[o],bif (JR ce s.1 o).1==0 then s.2.2.set k (a+1)else bif (JR ce s.1 o).1==1 then s.2.2 else s.2.2.set k (l.length:Int))
  |none=>s)
 |_,_=>s
def rfK (ce:Bool)(p:List (List OPt))(s:RS)(k:Nat):RS:=(List.range k).foldl (rfS ce p) s
theorem S6 (ce:Bool)(p:List (List OPt))(s:RS)(k:Nat):rfK ce p s (k+1)=rfS ce p (rfK ce p s k) k:=by
 unfold rfK
 rw[List.range_succ,List.foldl_append];rfl
def rfN (ce:Bool)(p:List (List OPt))(s:RS):Nat->RS
 |0=>s
 |n+1=>rfK ce p (rfN ce p s n) p.length
structure RF (p:List (List OPt))(s:RS)(n:Nat):Prop where
 ok:OkG s.1
 len:s.2.2.length=p.length
 pos:∀(k:Nat) (a:Int) (l:List OPt),s.2.2[k]? =some a->p[k]? =some l->0<=a/\a<=(l.length:Int)
 out:s.2.1.length<=n
section
variable {ce:Bool}{p:List (List OPt)}(hp:Qp p=true)
include hp
theorem RF.turn {s:RS}{n k:Nat}(H:RF p s n)(hk:k<p.length):∃l a,p[k]? =some l/\l∈p/\s.2.2[k]? =some a/\0<=a/\((a==(l.length:Int))=true/\rfS ce p s k=s\/
 (a==(l.length:Int))=false/\∃o,l[a.toNat]? =some o/\a.toNat<l.length/\N9 o=true/\rfS ce p s k=((JR ce s.1 o).2.2,s.2.1++[o],bif (JR ce s.1 o).1==0 then s.2.2.set k (a+1)else bif (JR ce s.1 o).1==1 then s.2.2 else s.2.2.set k (l.length:Int))):=by
 have h1:p[k]? =some p[k]:=zQx hk
 have hk2:k<s.2.2.length:=by rw[H.len];exact hk
 have h2:s.2.2[k]? =some s.2.2[k]:=zQx hk2
 obtain⟨h3,h4⟩:=H.pos k _ _ h2 h1
 refine⟨p[k],s.2.2[k],h1,zQz hk,h2,h3,?_⟩
 unfold rfS
 rw[h1,h2]
 simp only
 cases hc:s.2.2[k]==((p[k].length:Nat):Int)
 ·right
  have hne:=beq_eq_false_iff_ne.1 hc
  have h5:(s.2.2[k]).toNat<p[k].length:=by omega
  refine⟨rfl,p[k][(s.2.2[k]).toNat],zQx h5,h5,?_,?_⟩
  ·exact(P6 ((MF hp).2 _ (zQz hk))).2 _ (zQz h5)
  ·rw[zQx h5];rfl
 ·left;exact⟨rfl,rfl⟩
theorem RF.step {s:RS}{n k:Nat}(H:RF p s n)(hk:k<p.length):RF p (rfS ce p s k) (n+1)/\(rfS ce p s k=s\/(rfS ce p s k).2.1.length=s.2.1.length+1):=by
 obtain⟨l,a,h1,hm,h2,h3,h|⟨hne,o,h4,h5,h6,h7⟩⟩:=H.turn (ce:=ce) hp hk
 ·rw[h.2]
  exact⟨⟨H.ok,H.len,H.pos,by have:=H.out;omega⟩,.inl rfl⟩
 ·rw[h7]
  have hkl:k<s.2.2.length:=by rw[H.len];exact hk
  refine⟨⟨H.ok.step ce h6,?_,?_,?_⟩,.inr (by simp)⟩
  ·simp only
   cases(JR ce s.1 o).1==0
   ·cases(JR ce s.1 o).1==1
    ·simp[H.len]
    ·simp[H.len]
   ·simp[H.len]
  ·intro j b l' hj hl'
   simp only at hj
   have key:∀v:Int,0<=v->v<=(l.length:Int)->(s.2.2.set k v)[j]? =some b->0<=b/\b<=(l'.length:Int):=by
    intro v hv1 hv2 hs
    by_cases e:k=j
    ·subst e
     rw[List.getElem?_set_self hkl]at hs
     rw[h1]at hl'
     cases hs;cases hl'
     exact⟨hv1,hv2⟩
    ·rw[List.getElem?_set_ne e]at hs
     exact H.pos j b l' hs hl'
   cases h8:(JR ce s.1 o).1==0<;>rw[h8]at hj
   ·cases h9:(JR ce s.1 o).1==1<;>rw[h9]at hj
    ·exact key _ (by omega) (by omega) hj
    ·exact H.pos j b l' hj hl'
   ·exact key _ (by omega) (by omega) hj
  ·have:=H.out
   simp only[zJk,zXk,List.length_nil];omega
theorem RF.rounds {s:RS}{n:Nat}(H:RF p s n):∀k,k<=p.length->RF p (rfK ce p s k) (n+k)/\s.2.1.length<=(rfK ce p s k).2.1.length/\((rfK ce p s k).2.1.length=s.2.1.length->rfK ce p s k=s):=by
 intro k
 induction k with
 |zero=>intro _;exact⟨H,zQq _,fun _=>rfl⟩
 |succ k ih=>
  intro hk
  obtain⟨h1,h2,h3⟩:=ih (by omega)
  rw[S6]
  obtain⟨h4,h5⟩:=h1.step (ce:=ce) hp (k:=k) (by omega)
  refine⟨h4,?_,?_⟩
  ·rcases h5 with h5|h5
   ·rw[h5];exact h2
   ·omega
  ·intro e
   rcases h5 with h5|h5
   ·rw[h5]at e ⊢;exact h3 e
   ·omega
theorem RF.all {s:RS}(H:RF p s 0):∀n,RF p (rfN ce p s n) (n*p.length):=by
 intro n
 induction n with
 |zero=>rw[Nat.zero_mul];exact H
 |succ n ih=>
  have:=(ih.rounds (ce:=ce) hp p.length (zQq _)).1
  rw[Nat.succ_mul];exact this
omit hp in
theorem A9b {s:RS}{i:Nat}(h:rfK ce p (rfN ce p s i) p.length=rfN ce p s i):∀j,rfN ce p s (i+j)=rfN ce p s i:=by
 intro j
 induction j with
 |zero=>rfl
 |succ j ih=>
  show rfK ce p (rfN ce p s (i+j)) p.length=_
  rw[ih,h]
end
def rfG (ce:Bool)(p:List (List OPt)):RS:=bif Qp p then rfN ce p (se,[],zKq p.length 0) 200 else(se,[],[])
theorem RF.new {p:List (List OPt)}:RF p (se,[],zKq p.length 0) 0:=by
 refine⟨qE,by simp,fun k a l h1 h2=>?_,zQq _⟩
 simp only[List.getElem?_replicate]at h1
 split at h1
 ·cases h1;omega
 ·cases h1
theorem Ue (ce:Bool)(p:List (List OPt)):OkG (rfG ce p).1/\(rfG ce p).2.1.length<=1200:=by
 unfold rfG
 cases hp:Qp p
 ·exact⟨qE,by simp⟩
 ·have h:=RF.all (ce:=ce) hp (RF.new (p:=p)) 200
  have h1:=h.out
  have h2:=(MF hp).1
  exact⟨h.ok,by simp only[cond_true];omega⟩
theorem Zx (ce:Bool){p:List (List OPt)}(hS:Nt p):
 J1 (ce,p,())=some (ce,(rfG ce p).1.2.2.2.2,(rfG ce p).1.1,(rfG ce p).1.2.1,(rfG ce p).1.2.2.1,(rfG ce p).1.2.2.2.1,(rfG ce p).2.1,()):=by
 have hn:=hS.1
 unfold J1 rfG
 simp only[dr,SE hS,zQk]
 cases hp:Qp p
 ·rfl
 simp only[zXj,cond_false,cond_true]
 rw[if_pos (by omega),zXz]
 have hp6:=(MF hp).1
 generalize hs0:((se,[],zKq p.length 0):RS)=s0
 have H0:RF p s0 0:=by rw[<-hs0];exact RF.new
 refine Kd 200 (fun n=>((n:Int),ce,(rfN ce p s0 n).1.2.2.2.2,(rfN ce p s0 n).1.1,(rfN ce p s0 n).2.1,(rfN ce p s0 n).2.2,(rfN ce p s0 n).1.2.1,(rfN ce p s0 n).1.2.2.1,(rfN ce p s0 n).1.2.2.2.1,())) (by rw[<-hs0];rfl) (fun n hn2=>?_) ⟨(ce,(rfN ce p s0 200).1.2.2.2.2,(rfN ce p s0 200).1.1,(rfN ce p s0 200).2.1,(rfN ce p s0 200).2.2,(rfN ce p s0 200).1.2.1,(rfN ce p s0 200).1.2.2.1,(rfN ce p s0 200).1.2.2.2.1,()),?_,rfl⟩
 ·have HN:=RF.all (ce:=ce) hp H0 n
  have hNp:n*p.length<=1200:=by
   have:=Nat.mul_le_mul (show n<=200 by omega) hp6;omega
  show _=some (Sum.inl (((n+1:Nat):Int),ce,(rfK ce p (rfN ce p s0 n) p.length).1.2.2.2.2,(rfK ce p (rfN ce p s0 n) p.length).1.1,(rfK ce p (rfN ce p s0 n) p.length).2.1,(rfK ce p (rfN ce p s0 n) p.length).2.2,(rfK ce p (rfN ce p s0 n) p.length).1.2.1,(rfK ce p (rfN ce p s0 n) p.length).1.2.2.1,(rfK ce p (rfN ce p s0 n) p.length).1.2.2.2.1,()))
  generalize rfN ce p s0 n=s at HN
  unfold Gl
  simp only
  rw[decide_eq_true (by omega),wr1 (by omega) (by omega)]
  simp only[cond_true]
  refine Kd p.length (fun k=>((k:Int),ce,(rfK ce p s k).1.2.2.2.2,(rfK ce p s k).1.1,(rfK ce p s k).2.1,(rfK ce p s k).2.2,(rfK ce p s k).1.2.1,(rfK ce p s k).1.2.2.1,(rfK ce p s k).1.2.2.2.1,())) rfl (fun k hk=>?_) ⟨(ce,(rfK ce p s p.length).1.2.2.2.2,(rfK ce p s p.length).1.1,(rfK ce p s p.length).2.1,(rfK ce p s p.length).2.2,(rfK ce p s p.length).1.2.1,(rfK ce p s p.length).1.2.2.1,(rfK ce p s p.length).1.2.2.2.1,()),?_,?_⟩
  ·obtain⟨HK,-,-⟩:=HN.rounds (ce:=ce) hp k (by omega)
   obtain⟨l,a,h1,hm,h2,h3,h⟩:=HK.turn (ce:=ce) hp hk
   have hlen:=HK.len
   have hout:=HK.out
   rw[S6]
   generalize rfK ce p s k=z at HK h2 h hlen hout
   have c1:(0:Int)<=(k:Int)/\(k:Int)<((z.2.2.length:Nat):Int):=by omega
   have hg:lAt p (k:Int)=some l:=by
    rw[Ai hk];rw[zQx hk]at h1;exact h1
   have hl12:=(P6 ((MF hp).2 l hm)).1
   unfold Gk
   simp only[hg,zQk,if_pos c1,zJj,zXz,h2]
   rw[decide_eq_true (by omega),wr1 (k:=(k:Int)) (by omega) (by omega)]
   simp only[cond_true]
   rcases h with⟨h4,h5⟩|⟨h4,o,h5,h6,h7,h8⟩
   ·rw[h4,h5];rfl
   ·rw[h4,h8]
    have hga:lAt l a=some o:=by
     rw[show a=((a.toNat:Nat):Int) by omega,Ai h6]
     rw[zQx h6]at h5;exact h5
    have hst:=dn HK.ok h7 ce
    simp only[JA]at hst
    have hw:IntKind.i64.wrap (a+1)=a+1:=wr1 h3 (by omega)
    simp only[cond_false,hga,zQk,hw]
    rw[if_pos (by simp;omega)]
    erw [hst]
    simp only[zQk,ZK]
    cases h9:(JR ce z.1 o).1==0
    ·cases h10:(JR ce z.1 o).1==1<;>rfl
    ·rfl
  ·unfold Gk
   simp only
   rw[decide_eq_false (by omega)];rfl
  ·rfl
 ·unfold Gl
  rfl
theorem Zk (ce:Bool){p:List (List OPt)}(hS:Nt p):
 IU (ce,p,())=some (ce,(rfG ce p).1.2.2.2.2,(rfG ce p).1.1,(rfG ce p).2.1,(rfG ce p).1.2.1,(rfG ce p).1.2.2.1,(rfG ce p).1.2.2.2.1,()):=by
 have hn:=hS.1
 unfold IU rfG
 simp only[db,Sv hS,zQk]
 cases hp:Qp p
 ·rfl
 simp only[zXj,cond_false,cond_true]
 rw[if_pos (by omega),zXz]
 have hp6:=(MF hp).1
 generalize hs0:((se,[],zKq p.length 0):RS)=s0
 have H0:RF p s0 0:=by rw[<-hs0];exact RF.new
 have hin:∀(n:Nat) (s:RS),RF p s (n*p.length)->n*p.length<=1200->Au (fun a=>Er (p,(n:Int),false,0,()) a _ some) (false,0,ce,s.1.2.2.2.2,s.1.1,s.2.1,s.2.2,s.1.2.1,s.1.2.2.1,s.1.2.2.2.1,())=
  some (!((rfK ce p s p.length).2.1.length==s.2.1.length),ce,(rfK ce p s p.length).1.2.2.2.2,(rfK ce p s p.length).1.1,(rfK ce p s p.length).2.1,(rfK ce p s p.length).2.2,(rfK ce p s p.length).1.2.1,(rfK ce p s p.length).1.2.2.1,(rfK ce p s p.length).1.2.2.2.1,()):=by
  intro n s HN hNp
  refine Gz p.length (fun k=>(!((rfK ce p s k).2.1.length==s.2.1.length),(k:Int),ce,(rfK ce p s k).1.2.2.2.2,(rfK ce p s k).1.1,(rfK ce p s k).2.1,(rfK ce p s k).2.2,(rfK ce p s k).1.2.1,(rfK ce p s k).1.2.2.1,(rfK ce p s k).1.2.2.2.1,())) (by simp[rfK]) (fun k hk=>?_) ?_
  ·obtain⟨HK,hge,-⟩:=HN.rounds (ce:=ce) hp k (by omega)
   obtain⟨l,a,h1,hm,h2,h3,h⟩:=HK.turn (ce:=ce) hp hk
   have hlen:=HK.len
   have hout:=HK.out
   rw[S6]
   generalize rfK ce p s k=z at HK h2 h hlen hout hge
   have c1:(0:Int)<=(k:Int)/\(k:Int)<((z.2.2.length:Nat):Int):=by omega
   have hg:lAt p (k:Int)=some l:=by
    rw[Ai hk];rw[zQx hk]at h1;exact h1
   have hl12:=(P6 ((MF hp).2 l hm)).1
   unfold Er
   simp only[hg,zQk,if_pos c1,zJj,zXz,h2]
   rw[decide_eq_true (by omega),wr1 (k:=(k:Int)) (by omega) (by omega)]
   simp only[cond_true]
   rcases h with⟨h4,h5⟩|⟨h4,o,h5,h6,h7,h8⟩
   ·rw[h4,h5];rfl
   ·rw[h4,h8]
    have hga:lAt l a=some o:=by
     rw[show a=((a.toNat:Nat):Int) by omega,Ai h6]
     rw[zQx h6]at h5;exact h5
    have hst:=A5z HK.ok.small ce o
    rw[(qD _).2 HK.ok,h7]at hst
    have hw:IntKind.i64.wrap (a+1)=a+1:=wr1 h3 (by omega)
    have hmv:((z.2.1++[o]).length==s.2.1.length)=false:=by
     rw[beq_eq_false_iff_ne];simp;omega
    simp only[cond_false,hga,zQk,hw]
    erw [hst]
    simp only[Bool.and_self,cond_true,zQk]
    rw[if_pos (by simp;omega),hmv]
    cases h9:(JR ce z.1 o).1==0
    ·cases h10:(JR ce z.1 o).1==1<;>rfl
    ·rfl
  ·unfold Er
   simp only
   rw[decide_eq_false (by omega)];rfl
 have key:∀m i:Nat,i+m=200->((Au (fun v=>Ee (p,false,0,()) v _ some) ((i:Int),ce,(rfN ce p s0 i).1.2.2.2.2,(rfN ce p s0 i).1.1,(rfN ce p s0 i).2.1,(rfN ce p s0 i).2.2,(rfN ce p s0 i).1.2.1,(rfN ce p s0 i).1.2.2.1,(rfN ce p s0 i).1.2.2.2.1,())).bind fun p=>Ap p (fun p=>some (p.1,p.2.1,p.2.2.1,p.2.2.2.1,p.2.2.2.2.2.1,p.2.2.2.2.2.2.1,p.2.2.2.2.2.2.2.1,())) fun p=>some (p.1,p.2.1,p.2.2.1,p.2.2.2.1,p.2.2.2.2.2.1,p.2.2.2.2.2.2.1,p.2.2.2.2.2.2.2.1,()))=
  some (ce,(rfN ce p s0 200).1.2.2.2.2,(rfN ce p s0 200).1.1,(rfN ce p s0 200).2.1,(rfN ce p s0 200).1.2.1,(rfN ce p s0 200).1.2.2.1,(rfN ce p s0 200).1.2.2.2.1,()):=by
  intro m
  induction m with
  |zero=>
   intro i hi
   obtain rfl:i=200:=by omega
   rw[AF]
   unfold Ee
   rfl
  |succ m ih=>
   intro i hi
   have HN:=RF.all (ce:=ce) hp H0 i
   have hNp:i*p.length<=1200:=by
    have:=Nat.mul_le_mul (show i<=200 by omega) hp6;omega
   obtain⟨HR,hge,hfix⟩:=HN.rounds (ce:=ce) hp p.length (zQq _)
   have hI:=hin i _ HN hNp
   have hB:Ee (p,false,0,()) ((i:Int),ce,(rfN ce p s0 i).1.2.2.2.2,(rfN ce p s0 i).1.1,(rfN ce p s0 i).2.1,(rfN ce p s0 i).2.2,(rfN ce p s0 i).1.2.1,(rfN ce p s0 i).1.2.2.1,(rfN ce p s0 i).1.2.2.2.1,()) _ some=
    bif ((rfN ce p s0 (i+1)).2.1.length==(rfN ce p s0 i).2.1.length)then some (.inr (.inl (ce,(rfN ce p s0 (i+1)).1.2.2.2.2,(rfN ce p s0 (i+1)).1.1,(rfN ce p s0 (i+1)).2.1,(rfN ce p s0 (i+1)).2.2,(rfN ce p s0 (i+1)).1.2.1,(rfN ce p s0 (i+1)).1.2.2.1,(rfN ce p s0 (i+1)).1.2.2.2.1,())))
    else some (.inl (((i+1:Nat):Int),ce,(rfN ce p s0 (i+1)).1.2.2.2.2,(rfN ce p s0 (i+1)).1.1,(rfN ce p s0 (i+1)).2.1,(rfN ce p s0 (i+1)).2.2,(rfN ce p s0 (i+1)).1.2.1,(rfN ce p s0 (i+1)).1.2.2.1,(rfN ce p s0 (i+1)).1.2.2.2.1,())):=by
    unfold Ee
    simp only
    rw[decide_eq_true (by omega),wr1 (by omega) (by omega)]
    simp only[cond_true]
    erw [hI]
    simp only[zQk,Bool.not_not]
    rfl
   rw[AF]
   erw [hB]
   cases hc:(rfN ce p s0 (i+1)).2.1.length==(rfN ce p s0 i).2.1.length
   ·simp only[cond_false,zQk]
    exact ih (i+1) (by omega)
   ·have e1:rfN ce p s0 (i+1)=rfN ce p s0 i:=hfix (beq_iff_eq.1 hc)
    have e2:=A9b (ce:=ce) (p:=p) (s:=s0) (i:=i) e1 (m+1)
    rw[show i+(m+1)=200 by omega]at e2
    simp only[cond_true,zQk]
    rw[e2,e1]
    rfl
 have h200:=key 200 0 rfl
 rw[<-hs0]at h200 ⊢
 exact h200
end
end Go.Ab
end
section
namespace Go.Ab
noncomputable def acy (g:List EDg):Bool:=dec (okG g)&&(((sc g).length:Int)==0)
theorem rU {g:List EDg}(hg:g.length<=10000000):Jn (g,())=some (acy g,()):=by
 unfold Jn acy
 simp only[ZF (show g.length<=100000000 by omega),zQk,A6f hg]
 cases dec (okG g)<;>rfl
theorem rN {g:List EDg}(hg:g.length<=10000000):Je (g,())=some (acy g,()):=by
 unfold Je acy
 simp only[Zq (show g.length<=100000000 by omega),zQk,A60 hg]
 cases dec (okG g)<;>rfl
noncomputable def hiE (e:EG):List EN:=dP e.1 e.2.1 e.2.2.1 e.2.2.2.1 e.2.2.2.2
noncomputable def ccP (p:List (List OPt)):Int×Int×Bool:=
 bif Qp p then(((QB (rfG true p).1.2.1 2).length:Int),((QB (rfG false p).1.2.1 2).length:Int),acy (bgr (hiE (rfG false p).1)))else(0,0,false)
theorem rT {p:List (List OPt)}(hS:Nt p):F7 (p,())=some ((ccP p).1,(ccP p).2.1,(ccP p).2.2,()):=by
 unfold F7 ccP
 have H1:=(Ue true p).1.small
 have H2:=(Ue false p).1.small
 have hh:=du (stamp:=(rfG false p).1.2.2.2.2) H2 false
 have hs:=qN (stamp:=(rfG false p).1.2.2.2.2) H2
 have hg:=A6p hs
 have ha:=rU (rf hs)
 simp only[SE hS,zQk]
 cases hp:Qp p
 ·rfl
 simp only[zXj,cond_false,cond_true,Zx true hS,Zx false hS,zQk,Eh,SC H1.fl,SC H2.fl,hh,hg,ha]
 rfl
theorem rM {p:List (List OPt)}(hS:Nt p):EU (p,())=some ((ccP p).1,(ccP p).2.1,(ccP p).2.2,()):=by
 unfold EU ccP
 have H1:=(Ue true p).1.small
 have H2:=(Ue false p).1.small
 have hh:=df (stamp:=(rfG false p).1.2.2.2.2) H2 false
 have hs:=qN (stamp:=(rfG false p).1.2.2.2.2) H2
 have hg:=A6a hs
 have ha:=rN (rf hs)
 simp only[Sv hS,zQk]
 cases hp:Qp p
 ·rfl
 simp only[zXj,cond_false,cond_true,Zk true hS,Zk false hS,zQk,Ss H1.fl,Ss H2.fl,hh,hg,ha]
 rfl
def law_tsCC:List Ty:=[.slice (.slice YOp)]
theorem law_CompareCertifier (x:den (L1 law_tsCC).ty)(hx:wf (L1 law_tsCC).ty x):Ey x=some (true,()):=by
 obtain⟨p,_⟩:=x
 have hp:=hx.1
 unfold Ey
 refine Alt (A5u hp.1 (fun e he=>(hp.2 e he).1) (by omega) (by omega)) fun n h0 h1 hS=>?_
 have hS:Nt p:=hS
 have hS1:List.length (α:=List OPt) p<=1048576:=hS.1
 have e1:=rM hS
 have e2:=rT hS
 have eO:=A5t p hS
 have eQ:=A6s p (by omega) (fun r hr=>by have:=hS.2 r hr;unfold eh at this;omega)
 erw [eO]
 simp only[zQk]
 erw [e1]
 simp only[zQk]
 erw [e2]
 simp only[zQk,bne_self_eq_false,cond_false]
 erw [eQ]
 have hb:((ccP p).2.2 != (ccP p).2.2)=false:=bne_self_eq_false _
 have hb2:(!(ccP p).2.2==(ccP p).2.2)=false:=by cases(ccP p).2.2<;>rfl
 simp only[zQk,hb,hb2,zXj,cond_false]
end Go.Ab
end
