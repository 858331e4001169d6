/- What is proved here: a part of the proof of laws of this seat: what a contract is, how it comes of a condition, contracts of the functions that are reached, the plain laws. -/
import Derived.Test.YtgaegoefbekndaaGreatDoorWK5
import Derived.ChangeKeysEq
import Derived.Laws.Strings
import Derived.Lib.Bytealg
set_option linter.unusedSimpArgs false
set_option linter.unusedVariables false
set_option maxRecDepth 100000
namespace Go.Vg
open Go Go.Proofs
def stepCells(o:Step):List Value:=[i64 o.kind,i64 o.name,i64 o.ver]
theorem stepCells_len(o:Step):(stepCells o).length=3:=rfl
abbrev Steps(H:Heap)(a:O)(n:Nat)(l:List Step):Prop:=Sl (REnc stepCells) 3 H a n l
theorem Sl.step{H H':Heap}{a:O}{n:Nat}{xs:List Step}(h:Steps H a n xs)(e:Ext H H'){k:Int}(h0:0<=k)(h1:k<n){F:Int->Int->Int->Prop}(hF:∀p,xs[k.toNat]?=some p->F p.kind p.name p.ver):
  ∃(b o:Nat),a=some ⟨b,o,none⟩/\0<=k/\k<n/\∃(x y z:Int),(H'.cell b (o+k.toNat*3)=some (.int .i64 x)/\H'.cell b (o+k.toNat*3+1)=some (.int .i64 y)/\H'.cell b (o+k.toNat*3+2)=some (.int .i64 z)/\True)/\F x y z:=by
 obtain⟨b,o,r,x,ha,hx,hr,hc⟩:=h.get h0 h1
 obtain rfl:r=stepCells x:=hr
 exact⟨b,o,ha,h0,h1,_,_,_,⟨Heap.cell_next e (hc 0 _ rfl),Heap.cell_next e (hc 1 _ rfl),Heap.cell_next e (hc 2 _ rfl),trivial⟩,hF x hx⟩
theorem snoc_step{α:Type}(enc:α->List Value)(out:List α)(x:α):(out++[x]).flatMap enc=out.flatMap enc++enc x:=by simp
theorem steps_len{base:Nat}{H:Heap}{e:TypeId}{a:O}{n c:Nat}{xs:List Step}(h:Row base H e 3 a n c (xs.flatMap stepCells)):xs.length=n:=row_len stepCells_len (by omega) h
theorem cDiff{H:Heap}{a a':O}{l c l' c':Nat}{xs ys:List Pin}(hx:Pins H a l xs)(hy:Pins H a' l' ys):
  Spec Tryz.prog 57 [.slice a l c,.slice a' l' c'] H fun v H'=>∃a n c,v= .tuple #[.slice a n c,i64 (diffErr xs ys)]/\Steps H' a n (if diffErr xs ys=0 then diffs xs ys else []):=by
 refine TryzvcJ Tryz.func57 (by kernel_rfl) (by kernel_rfl) _ rfl (fun base K=>vc54 a a' l c l' c' base H K) fun base hb=> ?_
 have hxl:=hx.len
 have hyl:=hy.len
 refine⟨fun vs Hc=>∃(a1:O)(n1 c1:Nat)(d:Int)(k:Nat),vs=[.slice a1 n1 c1,i64 d,i64 k]/\k<=2/\(0<k->lockCheck xs=0)/\(1<k->lockCheck ys=0),upTo 2 2,⟨none,0,0,0,0,rfl,by omega,by omega,by omega⟩,fun a1 n1 c1 d n H' hN hI=> ?_⟩
 obtain⟨a1',n1',c1',d',k,hvs,hk,hk0,hk1⟩:=hI
 obtain⟨⟨rfl,rfl,rfl⟩,rfl,rfl⟩:(a1=a1'/\n1=n1'/\c1=c1')/\d=d'/\n=(k:Int):=by simpa using hvs
 refine⟨fun hlt=>⟨by omega,hlt,?_⟩,fun hge=> ?_⟩
 ·by_cases k0:k=0
  ·subst k0
   refine⟨a,l,c,rfl,(cLockCheck (hx.ext' hN.ext)).int1 fun H1 e1 hN1=>⟨fun h=> ?_,fun h=> ?_⟩⟩
   ·have e:diffErr xs ys=lockCheck xs:=by rw[diffErr,if_neg h]
    rw[e,if_neg h]
    exact⟨none,0,0,rfl,Sl.nil⟩
   ·rintro r rfl
    rw[wrap_small (by omega) (by omega)]
    exact⟨⟨_,_,_,_,1,rfl,by omega,fun _=>Decidable.not_not.1 h,by omega⟩,by simp[upTo]⟩
  ·obtain rfl:k=1:=by omega
   refine⟨a',l',c',rfl,(cLockCheck (hy.ext' hN.ext)).int1 fun H1 e1 hN1=>⟨fun h=> ?_,fun h=> ?_⟩⟩
   ·have e:diffErr xs ys=lockCheck ys:=by rw[diffErr,if_pos (hk0 (by omega))]
    rw[e,if_neg h]
    exact⟨none,0,0,rfl,Sl.nil⟩
   ·rintro r rfl
    rw[wrap_small (by omega) (by omega)]
    exact⟨⟨_,_,_,_,2,rfl,by omega,fun _=>hk0 (by omega),fun _=>Decidable.not_not.1 h⟩,by simp[upTo]⟩
 obtain rfl:k=2:=by omega
 have hz:diffErr xs ys=0:=by rw[diffErr,if_pos (hk0 (by omega))];exact hk1 (by omega)
 obtain⟨⟨hLx,hx12⟩,hLy,hy12⟩:=diffErr_zero.1 hz
 rw[hz,if_pos rfl]
 refine⟨fun vs Hc=>∃(out:List Step)(a1:O)(n1 c1:Nat)(k:Nat),vs=[.slice a1 n1 c1,i64 k]/\Row base Hc 182 3 a1 n1 c1 (out.flatMap stepCells)/\k<=l/\out.length<=k/\out++(xs.drop k).filterMap (dropOf ys)=drops xs ys,upTo l 1,
  ⟨[],none,0,0,0,rfl,Row.nil,by omega,by simp,rfl⟩,fun a3 n3 c3 n H3 hN3 hI=> ?_⟩
 obtain⟨out,a3',n3',c3',k,hvs,hR,hk,hol,hI⟩:=hI
 obtain⟨⟨rfl,rfl,rfl⟩,rfl⟩:(a3=a3'/\n3=n3'/\c3=c3')/\n=(k:Int):=by simpa using hvs
 have hon:=steps_len hR
 refine⟨fun hlt=>hx.pin hN3.ext (by omega) hlt fun p hp=> ?_,fun hge=> ?_⟩
 ·rw[Int.toNat_natCast] at hp
  rw[drop_at hp] at hI
  intro _
  refine(cFind (hy.ext' hN3.ext) p.name).int1 fun H4 e4 hN4=>⟨fun h=> ?_,fun h=> ?_⟩
  ·rw[List.filterMap_cons_some (b:=⟨2,p.name,0⟩) (by rw[dropOf,if_pos h])] at hI
   refine fun _=>⟨_,hR.ext e4,by omega,by omega,fun a5 c5 H5 hG hR5=> ?_⟩
   rintro r rfl
   rw[wrap_small (by omega) (by omega)]
   exact⟨⟨out++[⟨2,p.name,0⟩],a5,_,c5,k+1,rfl,by rw[snoc_step];exact hR5,by omega,by simp;omega,by simpa using hI⟩,by simp[upTo];omega⟩
  ·rw[List.filterMap_cons_none (by rw[dropOf,if_neg h])] at hI
   rintro r rfl
   rw[wrap_small (by omega) (by omega)]
   exact⟨⟨out,_,_,_,k+1,rfl,hR.ext e4,by omega,by omega,hI⟩,by simp[upTo];omega⟩
 rw[drop_all hxl (by omega),List.filterMap_nil,List.append_nil] at hI
 refine⟨fun vs Hc=>∃(out:List Step)(a1:O)(n1 c1:Nat)(k:Nat),vs=[.slice a1 n1 c1,i64 k]/\Row base Hc 182 3 a1 n1 c1 (out.flatMap stepCells)/\k<=l'/\out.length<=k+l/\out++(ys.drop k).filterMap (addOf xs)=diffs xs ys,upTo l' 1,
  ⟨out,_,_,_,0,rfl,hR,by omega,by omega,by rw[hI];rfl⟩,fun a3 n3 c3 n H3 hN3 hI=> ?_⟩
 obtain⟨out,a3',n3',c3',k,hvs,hR,hk,hol,hI⟩:=hI
 obtain⟨⟨rfl,rfl,rfl⟩,rfl⟩:(a3=a3'/\n3=n3'/\c3=c3')/\n=(k:Int):=by simpa using hvs
 have hon:=steps_len hR
 refine⟨fun hlt=>hy.pin hN3.ext (by omega) hlt fun p hp=> ?_,fun hge=> ?_⟩
 ·rw[Int.toNat_natCast] at hp
  rw[drop_at hp] at hI
  intro _
  refine(cFind (hx.ext' hN3.ext) p.name).int1 fun H4 e4 hN4=>⟨fun h=> ?_,fun h=>⟨fun h0=> ?_,fun h0=> ?_⟩⟩
  ·rw[List.filterMap_cons_none (by rw[addOf,if_pos h])] at hI
   rintro r rfl
   rw[wrap_small (by omega) (by omega)]
   exact⟨⟨out,_,_,_,k+1,rfl,hR.ext e4,by omega,by omega,hI⟩,by simp[upTo];omega⟩
  ·rw[List.filterMap_cons_some (b:=⟨1,p.name,p.ver⟩) (by rw[addOf,if_neg h,if_pos h0])] at hI
   refine fun _=>⟨_,hR.ext e4,by omega,by omega,fun a5 c5 H5 hG hR5=> ?_⟩
   rintro r rfl
   rw[wrap_small (by omega) (by omega)]
   exact⟨⟨out++[⟨1,p.name,p.ver⟩],a5,_,c5,k+1,rfl,by rw[snoc_step];exact hR5,by omega,by simp;omega,by simpa using hI⟩,by simp[upTo];omega⟩
  ·rw[List.filterMap_cons_some (b:=⟨3,p.name,p.ver⟩) (by rw[addOf,if_neg h,if_neg h0])] at hI
   refine fun _=>⟨_,hR.ext e4,by omega,by omega,fun a5 c5 H5 hG hR5=> ?_⟩
   rintro r rfl
   rw[wrap_small (by omega) (by omega)]
   exact⟨⟨out++[⟨3,p.name,p.ver⟩],a5,_,c5,k+1,rfl,by rw[snoc_step];exact hR5,by omega,by simp;omega,by simpa using hI⟩,by simp[upTo];omega⟩
 ·rw[drop_all hyl (by omega),List.filterMap_nil,List.append_nil] at hI
  refine⟨a3,n3,c3,rfl,?_⟩
  rw[←hI]
  exact sl_of_rowE stepCells_len (by omega) hR
theorem cCloneJ{H:Heap}{a:O}{l c:Nat}{xs:List Pin}(hx:Pins H a l xs)(hl:l<=100000):Spec Tryz.prog 163 [.slice a l c] H fun v H'=>∃a n c,v= .slice a n c/\Fresh H H' 91 2 a n c (xs.flatMap pinCells):=by
 refine TryzvcJ Tryz.func163 (by kernel_rfl) (by kernel_rfl) _ rfl (fun base K=>vc121 a l c base H K) fun base hb=>⟨_,eqNil Tryz.underlying22,fun h=> ?_,fun h=> ?_⟩
 ·obtain rfl:a=none:=by cases a<;>simp at h⊢
  obtain⟨_,rfl⟩:=hx.addr_nil
  exact⟨none,0,0,rfl,Fresh.zero⟩
 ·intro g H1 hN1 _ hg
  obtain⟨h1,h2,h3⟩:=hx.copied pinCells_len (fun _=>rfl) hN1.ext
  exact⟨[],_,Row.zero,h1,h2,h3,by omega,by omega,fun a3 c3 H3 hG hR=>⟨_,_,_,rfl,hR.fresh hb⟩⟩
theorem cApplyIdx{H:Heap}{a:O}{l c:Nat}{xs:List Pin}(hx:Pins H a l xs){k:Int}{p:Nat}(hp:H.cell p 1=some (i64 k)):
  Spec Tryz.prog 147 [.slice a l c,.func (.func 234) #[] #[.pointer (some ⟨p,0,none⟩)]] H fun v _=>v=i64 (pinIdx k 0 xs):=by
 have h120:∀ {H:Heap} {n v:Int},H.cell p 1=some (i64 k)->Spec Tryz.prog 234 [.agg #[.int .i64 n,.int .i64 v],.pointer (some ⟨p,0,none⟩)] H fun r _=>r= .bool (decide (n=k)):=by
  intro H n v hp
  refine TryzvcJ Tryz.func234 (by kernel_rfl) (by kernel_rfl) _ rfl (fun base K=>vc120 n v p base H K) fun base hb=> ?_
  intro _
  exact⟨k,hp,rfl⟩
 refine TryzvcJ Tryz.func147 (by kernel_rfl) (by kernel_rfl) _ rfl (fun base K=>vc113b a l c p base H K) fun base hb=> ?_
 have hle:=hx.le
 refine⟨fun vs _=>∃(d:Int)(i:Nat),vs=[i64 d,i64 i]/\i<=l/\pinIdx k i (xs.drop i)=pinIdx k 0 xs,upTo l 1,⟨0,0,rfl,by omega,rfl⟩,fun d n H' hN hI=> ?_⟩
 obtain⟨d',i,hvs,hi,hI⟩:=hI
 obtain⟨rfl,rfl⟩:d=d'/\n=(i:Int):=by simpa using hvs
 refine⟨fun hlt=>hx.pin hN.ext (by omega) hlt fun q hq=> ?_,fun hge=> ?_⟩
 ·rw[Int.toNat_natCast] at hq
  rw[drop_at hq,pinIdx] at hI
  refine(h120 (Heap.cell_next hN.ext hp)).bool1 fun H2 _ _=>⟨fun h=> ?_,fun h=> ?_⟩
  ·rw[if_pos (by simpa using h)] at hI;rw[←hI]
  ·rw[if_neg (by simpa using h)] at hI
   rintro r rfl
   rw[wrap_in (by omega) (by omega)]
   exact⟨⟨_,i+1,rfl,by omega,hI⟩,by simp[upTo];omega⟩
 ·rw[←hI,drop_all hx.len (by omega),pinIdx]
theorem up_at{n v:Int} :∀ {l:List Pin} {k:Nat},(∀p∈l.take k,p.name<n)->(∀p,l[k]?=some p->n<=p.name)->find l n=0->(∀p∈l,p.ver≠0)->k<=l.length->up n v l=l.take k++⟨n,v⟩::l.drop k
 | [],k,_,_,_,_,hk=>by simp at hk;subst hk;rfl
 |p::r,0,_,h2,hf,hv,_=>by
  have h:=h2 p rfl
  have hne:p.name≠n:=fun e=>by rw[find,if_pos e] at hf;exact hv p List.mem_cons_self hf
  unfold up
  rw[if_pos h,if_neg hne];rfl
 |p::r,k+1,h1,h2,hf,hv,hk=>by
  have h:=h1 p (by simp)
  have hne:p.name≠n:=by omega
  rw[find,if_neg hne] at hf
  unfold up
  rw[if_neg (by omega),up_at (k:=k) (fun q hq=>h1 q (by simp;exact .inr hq)) (fun q hq=>h2 q (by simpa using hq)) hf (fun q hq=>hv q (List.mem_cons_of_mem _ hq)) (by simpa using hk)]
  rfl
theorem del_at{n:Int} :∀ {l:List Pin} {k:Nat} {p:Pin},Lk l->l[k]?=some p->p.name=n->del n l=l.take k++l.drop (k+1)
 | [],k,p,_,h,_=>by simp at h
 |q::r,0,p,hl,h,hn=>by
  simp at h;subst h
  unfold del
  rw[List.filter_cons_of_neg (by simp[hn])]
  simp only[List.take_zero,List.nil_append,List.drop_one,List.tail_cons]
  refine List.filter_eq_self.2 fun x hx=> ?_
  have:=hl.head x hx
  simp;omega
 |q::r,k+1,p,hl,h,hn=>by
  have hm:p∈r:=List.mem_of_getElem? (by simpa using h)
  have:=hl.head p hm
  have ih:=del_at (n:=n) (k:=k) hl.tail (by simpa using h) hn
  unfold del at ih⊢
  rw[List.filter_cons_of_pos (by simp;omega),ih]
  rfl
theorem turn_at{n v:Int} :∀ {l:List Pin} {k:Nat} {p:Pin},Lk l->l[k]?=some p->p.name=n->up n v l=l.set k ⟨n,v⟩
 | [],k,p,_,h,_=>by simp at h
 |q::r,0,p,hl,h,hn=>by
  simp at h;subst h
  unfold up
  rw[if_pos (by omega),if_pos hn];rfl
 |q::r,k+1,p,hl,h,hn=>by
  have hm:p∈r:=List.mem_of_getElem? (by simpa using h)
  have:=hl.head p hm
  unfold up
  rw[if_neg (by omega),turn_at hl.tail (by simpa using h) hn];rfl
theorem flat_take{α:Type}{enc:α->List Value}{sz:Nat}(hs:∀x,(enc x).length=sz):∀(xs:List α)(k:Nat),(xs.flatMap enc).take (k*sz)=(xs.take k).flatMap enc
 | [],k=>by simp
 |x::r,0=>by simp
 |x::r,k+1=>by
  rw[List.flatMap_cons,Nat.succ_mul,List.take_succ_cons,List.flatMap_cons,←flat_take hs r k,←hs x,Nat.add_comm,List.take_length_add_append]
theorem flat_drop{α:Type}{enc:α->List Value}{sz:Nat}(hs:∀x,(enc x).length=sz):∀(xs:List α)(k:Nat),(xs.flatMap enc).drop (k*sz)=(xs.drop k).flatMap enc
 | [],k=>by simp
 |x::r,0=>by simp
 |x::r,k+1=>by
  rw[List.flatMap_cons,Nat.succ_mul,List.drop_succ_cons,←flat_drop hs r k,←hs x,Nat.add_comm,List.drop_length_add_append]
theorem flat_field{α:Type}{enc:α->List Value}{sz:Nat}(hs:∀x,(enc x).length=sz){p q:α}{k:Nat}{vs:List Value}(hk:k+vs.length<=sz)(hq:setRange (enc p) k vs=enc q):∀ {xs:List α} {j:Nat},xs[j]?=some p->setRange (xs.flatMap enc) (j*sz+k) vs=(xs.set j q).flatMap enc
 | [],j,h=>by simp at h
 |y::r,0,h=>by
  simp at h;subst h
  rw[List.flatMap_cons,Nat.zero_mul,Nat.zero_add,setRange_left (by rw[hs];exact hk),hq];rfl
 |y::r,j+1,h=>by
  have h':r[j]?=some p:=by simpa using h
  have hj:=(List.getElem?_eq_some_iff.1 h').1
  have hle:(j+1)*sz<=r.length*sz:=Nat.mul_le_mul_right _ hj
  rw[Nat.succ_mul] at hle
  have:=setRange_app (xs:=enc y) (vs:=vs) (ys:=r.flatMap enc) (o:=j*sz+k) (by rw[flat_len hs];omega)
  rw[hs] at this
  rw[List.flatMap_cons,Nat.succ_mul,show j*sz+sz+k=sz+(j*sz+k) from by omega,this,flat_field hs hk hq h'];rfl
theorem Row.apart{base:Nat}{H:Heap}{e:TypeId}{sz:Nat}{a:O}{n c g:Nat}{xs:List Value}(h:Row base H e sz a n c xs)(hg:H g=none):c≠0->a≠some ⟨g,0,none⟩:=fun hc ha=>by
 rcases h.2.2.2 with⟨_,h0⟩|⟨b,k,hb,_,hH,_⟩
 ·exact hc h0
 ·rw[ha] at hb
  obtain rfl:g=b:=by simpa using hb
  rw[hg] at hH;cases hH
theorem cApply{H:Heap}{a:O}{l c:Nat}{xs:List Pin}(hx:Pins H a l xs)(kd n v:Int):
  Spec Tryz.prog 204 [.slice a l c,.agg #[.int .i64 kd,.int .i64 n,.int .i64 v]] H fun r H'=>∃a' n' c',r= .tuple #[.slice a' n' c',i64 (applyErr xs ⟨kd,n,v⟩)]/\Pins H' a' n' (if applyErr xs ⟨kd,n,v⟩=0 then applied xs ⟨kd,n,v⟩ else []):=by
 refine TryzvcJ Tryz.func204 (by kernel_rfl) (by kernel_rfl) _ rfl (fun base K=>vc55 a l c kd n v base H K) fun base hb=> ?_
 have hxl:=hx.len
 have bad:∀ {e:Int} {H':Heap},applyErr xs ⟨kd,n,v⟩=e->e≠0->∃a' n' c',Value.tuple #[.slice none 0 0,.int .i64 e]= .tuple #[.slice a' n' c',i64 (applyErr xs ⟨kd,n,v⟩)]/\Pins H' a' n' (if applyErr xs ⟨kd,n,v⟩=0 then applied xs ⟨kd,n,v⟩ else []):=fun he h0=>by
  rw[he,if_neg h0];exact⟨none,0,0,rfl,Sl.nil⟩
 intro b
 refine(cLockCheck hx).int1 fun H1 e1 hN1=>⟨fun h=>bad (by rw[applyErr,if_pos h]) h,fun h=> ?_⟩
 have h:=Decidable.not_not.1 h
 obtain⟨hL,hl12⟩:=lockCheck_zero.1 h
 refine⟨kd<1∨3<kd,⟨fun _=>⟨rfl,fun _ _ h=>h,by omega⟩,fun _=>⟨rfl,fun _ _ h=>h,by omega⟩⟩,fun h2=>bad (by rw[applyErr,if_neg (by omega),if_pos h2]) (by omega),fun h2=> ?_⟩
 refine⟨n<1∨20<n∨(kd≠2/\(v<1∨99<v))∨(kd=2/\v≠0),?_,fun h3=>bad (by rw[applyErr,if_neg (by omega),if_neg h2,if_pos (show badStep ⟨kd,n,v⟩ from h3)]) (by omega),fun h3=>⟨rfl,fun Hl hNl hbx=> ?_⟩⟩
 ·repeat' (first|exact⟨rfl,fun _ _ h=>h,by omega⟩|intro _|refine⟨?_,?_⟩)
 have h3':=h3
 have h3:¬badStep ⟨kd,n,v⟩:=h3
 have hx1:=hx.ext' e1
 refine(cApplyIdx (hx1.ext' hNl.ext) (k:=n) (p:=b) (by unfold Heap.cell;rw[hbx.1];rfl)).mono fun r H2 e2 hv=>⟨_,hv,fun H3 hN3 _=> ?_⟩
 have hf:=pinIdx_spec n xs 0 (by omega)
 have hidx:(0<=pinIdx n 0 xs↔find xs n≠0):=by
  rcases hf with⟨g1,g2,_⟩|⟨j,p,g1,g2,g3,g4⟩
  ·rw[g1,g2];omega
  ·have:=hL.name (List.mem_of_getElem? g2)
   rw[g1,g3];omega
 refine⟨kd=1/\find xs n≠0,⟨fun _=>⟨rfl,fun _ _ h=>h,by omega⟩,fun _=>⟨rfl,fun _ _ h=>h,by omega⟩⟩,fun h4=>bad (by rw[applyErr,if_neg (by omega),if_neg h2,if_neg h3,if_pos h4]) (by omega),fun h4=> ?_⟩
 refine⟨kd≠1/\find xs n=0,⟨fun _=>⟨rfl,fun _ _ h=>h,by omega⟩,fun _=>⟨rfl,fun _ _ h=>h,by omega⟩⟩,fun h5=>bad (by rw[applyErr,if_neg (by omega),if_neg h2,if_neg h3,if_neg h4,if_pos h5]) (by omega),fun h5=> ?_⟩
 refine(cCloneJ (hx1.ext' hN3.ext) (by omega)).slF fun a4 n4 c4 H4 e4 hN4 hR=> ?_
 have hn4:xs.length=n4:=row_len pinCells_len (by omega) hR
 have good:(kd=1->xs.length≠12)->applyErr xs ⟨kd,n,v⟩=0:=fun hlen=>by
  rw[applyErr,if_neg (by omega),if_neg h2,if_neg h3,if_neg h4,if_neg h5,if_neg (fun h=>hlen h.1 h.2)]
 have fin:∀ {Hf:Heap} {af:O} {nf cf:Nat} {ls:List Value},(kd=1->xs.length≠12)->Row base Hf 91 2 af nf cf ls->ls=(applied xs ⟨kd,n,v⟩).flatMap pinCells->∃a' n' c',Value.tuple #[.slice af nf cf,.int .i64 0]= .tuple #[.slice a' n' c',i64 (applyErr xs ⟨kd,n,v⟩)]/\Pins Hf a' n' (if applyErr xs ⟨kd,n,v⟩=0 then applied xs ⟨kd,n,v⟩ else []):=fun hlen hRf he=>by
  rw[good hlen,if_pos rfl]
  subst he
  exact⟨_,_,_,rfl,pins_of_row hRf⟩
 refine⟨fun k1=>⟨fun h12=>bad (by rw[applyErr,if_neg (by omega),if_neg h2,if_neg h3,if_neg h4,if_neg h5,if_pos ⟨k1,by omega⟩]) (by omega),fun h12=> ?_⟩,fun k1=>⟨fun k2=> ?_,fun k2=>⟨fun k3=> ?_,fun k3=>by omega⟩⟩⟩
 ·have hf0:find xs n=0:=by omega
  refine⟨fun vs Hc=>∃i:Nat,vs=[i64 i]/\i<=n4/\Row base Hc 91 2 a4 n4 c4 (xs.flatMap pinCells)/\∀p∈xs.take i,p.name<n,upTo n4 0,⟨0,rfl,by omega,hR,by simp⟩,fun m H5 hN5 hI=> ?_⟩
  obtain⟨i,hvs,hi,hR5,hlow⟩:=hI
  obtain rfl:m=(i:Int):=by simpa using hvs
  have ins:(∀p,xs[i]?=some p->n<=p.name)->∀(g:Nat)(H6:Heap),Next base H5 H6->H5 g=none->H6 g=some (boxKB 91 [.int .i64 n,.int .i64 v])->insP base [⟨b,false,182,[.int .i64 kd,.int .i64 n,.int .i64 v]⟩] H6 (fun r _ H'=>∃a' n' c',Value.tuple #[r.val [],.int .i64 0]= .tuple #[.slice a' n' c',i64 (applyErr xs ⟨kd,n,v⟩)]/\Pins H' a' n' (if applyErr xs ⟨kd,n,v⟩=0 then applied xs ⟨kd,n,v⟩ else [])) a4 n4 c4 i g:=fun hup g H6 hN6 hg0 hg=>by
   refine⟨xs.flatMap pinCells,[i64 n,i64 v],i,rfl,hi,by omega,hR5.ext hN6.ext,one_pins xs,rfl,rfl,hg,(fun hc=>hR5.apart hg0 hc),fun a7 c7 H7 hG hR7=>fin (fun _=>by omega) hR7 ?_⟩
   have:applied xs ⟨kd,n,v⟩=up n v xs:=by unfold applied;rw[if_neg (by simp;omega)]
   rw[this,up_at hlow hup hf0 (fun p hp=>by have:=hL.name hp;omega) (by omega),flat_take pinCells_len,flat_drop pinCells_len]
   simp[pinCells]
  refine⟨fun hlt=>(pins_of_row hR5).pinName (Ext.refl _) (by omega) hlt fun p hp=>⟨fun hlt2=> ?_,fun hge=>ins fun q hq=> ?_⟩,fun hge=>ins fun q hq=> ?_⟩
  ·rw[Int.toNat_natCast] at hp
   rintro r rfl
   rw[wrap_small (by omega) (by omega)]
   refine⟨rfl,⟨i+1,rfl,by omega,hR5,fun q hq=> ?_⟩,by simp[upTo];omega⟩
   rw[take_at hp] at hq
   rcases List.mem_append.1 hq with hq|hq
   ·exact hlow q hq
   ·simp at hq;subst hq;exact hlt2
  ·rw[Int.toNat_natCast] at hp
   rw[hp] at hq
   obtain rfl:=Option.some.inj hq
   omega
  ·have:=(List.getElem?_eq_some_iff.1 hq).1
   omega
 ·rcases hf with⟨g1,g2,_⟩|⟨j,p,g1,g2,g3,g4⟩
  ·exact absurd ⟨k1,g2⟩ h5
  have hj:=(List.getElem?_eq_some_iff.1 g2).1
  rw[g1]
  rintro r rfl
  rw[wrap_small (by omega) (by omega)]
  refine⟨xs.flatMap pinCells,j,j+1,by omega,by omega,by omega,by omega,by omega,hR,one_pins xs,fun H5 hG hR5=>fin (fun h=>absurd h k1) hR5 ?_⟩
  have:applied xs ⟨kd,n,v⟩=del n xs:=by unfold applied;rw[if_pos k2]
  rw[this,del_at hL g2 g4,flat_take pinCells_len,flat_drop pinCells_len]
  simp
 ·rcases hf with⟨g1,g2,_⟩|⟨j,p,g1,g2,g3,g4⟩
  ·exact absurd ⟨k1,g2⟩ h5
  have hj:=(List.getElem?_eq_some_iff.1 g2).1
  rw[g1]
  obtain⟨b5,k5,hb5,hbase,hc5,hH5,hf5,hs5,_⟩:=hR.block (by omega)
  have hnc:=hR.2.1
  have ej:Int.toNat (0+(j:Int))=j:=by omega
  refine⟨b5,0,hb5,by omega,by omega,k5,hH5,hf5,hbase,by rw[hs5,ej];omega,fun H6 hu=> ?_⟩
  rw[ej] at hu
  have hR6:=hR.upd hb5 hc5 hH5 (o:=0+j*2+1) (vs:=[.int .i64 v]) (by rw[hR.1];show 0+j*2+1+1<=n4*2;omega) hu
  refine fin (fun h=>absurd h k1) hR6 ?_
  have:applied xs ⟨kd,n,v⟩=up n v xs:=by unfold applied;rw[if_neg k2]
  rw[this,turn_at hL g2 g4,Nat.zero_add,flat_field pinCells_len (p:=p) (q:=⟨n,v⟩) (k:=1) (vs:=[.int .i64 v]) (by simp) (by cases p;simp at g4;subst g4;rfl) g2]
open Go
structure Rls where
 id:Int
 lock:List Pin
 deriving DecidableEq
structure Mail where
 agent:Int
 try_:Int
 rep:Bool
 good:Bool
 rel:Rls
 deriving DecidableEq
def relErr(r:Rls):Int:=if r.id<1∨6<r.id then 3 else lockCheck r.lock
def noRel(r:Rls):Prop:=r.id=0/\r.lock=[]
instance (r:Rls):Decidable (noRel r):=by unfold noRel;infer_instance
def badWho(m:Mail):Prop:=m.agent<0∨6<=m.agent∨m.try_<1∨200<m.try_
instance (m:Mail):Decidable (badWho m):=by unfold badWho;infer_instance
def badForm(m:Mail):Prop:=(m.rep=true/\¬noRel m.rel)∨(m.rep=false/\m.good=true)
instance (m:Mail):Decidable (badForm m):=by unfold badForm;infer_instance
def mailsFrom:List Mail->Int
 | []=>0
 |m::q=>if badWho m then 3 else if badForm m then 4 else if m.rep=true then mailsFrom q else if relErr m.rel≠0 then relErr m.rel else mailsFrom q
def mailsCheck(l:List Mail):Int:=if 40<l.length then 2 else mailsFrom l
theorem mailsFrom_zero:∀ {l:List Mail},mailsFrom l=0->∀m∈l,m.rel.lock.length<=12
 | [],_,m,h=>by cases h
 |x::q,h,m,hm=>by
  unfold mailsFrom at h
  split at h
  ·omega
  ·split at h
   ·omega
   ·rename_i h1 h2
    split at h
    ·rename_i h3
     rcases List.mem_cons.1 hm with rfl|hm
     ·unfold badForm noRel at h2
      have:m.rel.lock=[]:=by
       by_cases e:m.rel.lock=[]
       ·exact e
       ·exact absurd (.inl ⟨h3,fun h=>e h.2⟩) h2
      simp[this]
     ·exact mailsFrom_zero h m hm
    ·split at h
     ·rename_i h4;exact absurd h h4
     ·rename_i h4
      rcases List.mem_cons.1 hm with rfl|hm
      ·have h4:relErr m.rel=0:=Decidable.not_not.1 h4
       unfold relErr at h4
       split at h4
       ·omega
       ·exact(lockCheck_zero.1 h4).2
      ·exact mailsFrom_zero h m hm
theorem mailsCheck_zero{l:List Mail}(h:mailsCheck l=0):l.length<=40/\∀m∈l,m.rel.lock.length<=12:=by
 unfold mailsCheck at h
 split at h
 ·omega
 ·exact⟨by omega,mailsFrom_zero h⟩
def sendErr(l:List Mail)(m:Mail):Int:=if mailsCheck l=0 then mailsCheck [m] else mailsCheck l
def sent(l:List Mail)(m:Mail):List Mail:=if l.length<40 then l++[m] else l
def takeErr(l:List Mail)(k:Int):Int:=if mailsCheck l=0 then(if k<0∨(l.length:Int)<=k then 5 else 0) else mailsCheck l
def noMail:Mail:=⟨0,0,false,false,⟨0,[]⟩⟩
def took(l:List Mail)(k:Int):Mail:=l.getD k.toNat noMail
def left(l:List Mail)(k:Int)(tw:Bool):List Mail:=if tw=true then l else l.take k.toNat++l.drop (k.toNat+1)
def mailVal(m:Mail)(a:O)(n c:Nat):List Value:=[i64 m.agent,i64 m.try_,.bool m.rep,.bool m.good,i64 m.rel.id,.slice a n c]
def RMail:Rep Mail:=fun H r m=>∃a n c,r=mailVal m a n c/\Pins H a n m.rel.lock
theorem RMail.mono:RMail.Mono:=fun _ _ _ _ e ⟨a,n,c,h,hp⟩=>⟨a,n,c,h,hp.ext' e⟩
theorem RMail.len{H:Heap}{r:List Value}{m:Mail}(h:RMail H r m):r.length=6:=by obtain⟨a,n,c,rfl,_⟩:=h;rfl
theorem RMail.one{r:List Value}{m:Mail}{H:Heap}(h:RMail H r m):allOne r=true:=by obtain⟨a,n,c,rfl,_⟩:=h;rfl
abbrev Mails(H:Heap)(a:O)(n:Nat)(l:List Mail):Prop:=Sl RMail 6 H a n l
theorem Mails.ext'{H H':Heap}{a:O}{n:Nat}{l:List Mail}(h:Mails H a n l)(e:Ext H H'):Mails H' a n l:=Sl.ext RMail.mono h e
theorem Sl.mail{H H':Heap}{a:O}{n:Nat}{xs:List Mail}(h:Mails H a n xs)(e:Ext H H'){k:Int}(h0:0<=k)(h1:k<n){F:Int->Int->Bool->Bool->Int->O->Nat->Nat->Prop}
  (hF:∀m a n c,xs[k.toNat]?=some m->Pins H a n m.rel.lock->F m.agent m.try_ m.rep m.good m.rel.id a n c):
  ∃(b o:Nat),a=some ⟨b,o,none⟩/\0<=k/\k<n/\∃(x y:Int)(p q:Bool)(z:Int)(a':O)(n' c':Nat),(H'.cell b (o+k.toNat*6)=some (.int .i64 x)/\H'.cell b (o+k.toNat*6+1)=some (.int .i64 y)/\H'.cell b (o+k.toNat*6+2)=some (.bool p)/\
   H'.cell b (o+k.toNat*6+3)=some (.bool q)/\H'.cell b (o+k.toNat*6+4)=some (.int .i64 z)/\H'.cell b (o+k.toNat*6+5)=some (.slice a' n' c')/\True)/\F x y p q z a' n' c':=by
 obtain⟨b,o,r,x,ha,hx,⟨a',n',c',rfl,hp⟩,hc⟩:=h.get h0 h1
 exact⟨b,o,ha,h0,h1,_,_,_,_,_,_,_,_,⟨Heap.cell_next e (hc 0 _ rfl),Heap.cell_next e (hc 1 _ rfl),Heap.cell_next e (hc 2 _ rfl),Heap.cell_next e (hc 3 _ rfl),Heap.cell_next e (hc 4 _ rfl),Heap.cell_next e (hc 5 _ rfl),trivial⟩,hF x a' n' c' hx hp⟩
theorem mail_box{H:Heap}{g:Nat}{ty:TypeId}{m:Mail}{a:O}{n c:Nat}(h:H g=some (boxKB ty (mailVal m a n c)))(hp:Pins H a n m.rel.lock):Mails H (some ⟨g,0,none⟩) 1 [m]:=
 Sl.of_has (rows:=[mailVal m a n c]) (Has.of_box h (by simp) (by simp[mailVal]) rfl (by decide)) rfl fun i r x hr hx=>by
  match i,hr,hx with
  |0,hr,hx=>simp at hr hx;subst hr hx;exact⟨a,n,c,rfl,hp⟩
  |i+1,hr,hx=>simp at hr
theorem newOf_mono{H1 H2 H3:Heap}(e:Ext H1 H2):Ext (newOf H2 H3) (newOf H1 H3):=fun x k h=>by
 have h1:=newOf_away x k h
 have h2:=newOf_ext x k h
 unfold newOf
 cases h3:H1 x with
 |none=>exact h2
 |some k'=>rw[e x k' h3] at h1;cases h1
theorem Fresh.sl_new{α:Type}{enc:α->List Value}{sz:Nat}(hs:∀x,(enc x).length=sz)(h0:0<sz){H H':Heap}{e:TypeId}{a:O}{n c:Nat}{xs:List α}(h:Fresh H H' e sz a n c (xs.flatMap enc)):Sl (REnc enc) sz (newOf H H') a n xs:=
 sl_of_rowE (base:=0) (e:=e) (c:=c) hs h0 ⟨h.1,h.2.1,h.2.2.1,h.2.2.2.imp id fun⟨g,k,h1,h2,h3,h4⟩=>⟨g,k,h1,Nat.zero_le _,by unfold newOf;rw[h2];exact h3,h4⟩⟩
theorem flat_takeR{sz:Nat} :∀ {rs:List (List Value)} (k:Nat),(∀r∈rs,r.length=sz)->rs.flatten.take (k*sz)=(rs.take k).flatten
 | [],k,_=>by simp
 |x::r,0,_=>by simp
 |x::r,k+1,h=>by
  rw[List.flatten_cons,Nat.succ_mul,List.take_succ_cons,List.flatten_cons,←flat_takeR k fun y hy=>h y (List.mem_cons_of_mem _ hy),←h x List.mem_cons_self,Nat.add_comm,List.take_length_add_append]
theorem flat_dropR{sz:Nat} :∀ {rs:List (List Value)} (k:Nat),(∀r∈rs,r.length=sz)->rs.flatten.drop (k*sz)=(rs.drop k).flatten
 | [],k,_=>by simp
 |x::r,0,_=>by simp
 |x::r,k+1,h=>by
  rw[List.flatten_cons,Nat.succ_mul,List.drop_succ_cons,←flat_dropR k fun y hy=>h y (List.mem_cons_of_mem _ hy),←h x List.mem_cons_self,Nat.add_comm,List.drop_length_add_append]
theorem OwnSl.regrew{α:Type}{R:Rep α}{sz:Nat}{e:TypeId}{base:Nat}{G H H':Heap}{a a':O}{n c n' c' nn:Nat}{rows rows':List (List Value)}{xs ys:List α}(h:OwnSl R sz e base G H a n c rows xs)(hg:Grew base H H' a c a' c' nn)
  (hr:Row base H' e sz a' n' c' rows'.flatten) (hw:∀r∈rows',r.length=sz) (ha:AllR R G rows' ys):OwnSl R sz e base G H' a' n' c' rows' ys:=
 ⟨hr,hw,ha,fun x k hx=>hg.keep x k (h.sub x k hx) (by
  by_cases hc:c=0
  ·exact .inl hc
  ·exact .inr fun e=>by have:=h.clear hc x e;rw[hx] at this;cases this),fun hc g hga=>by
  rcases hg.place hc g hga with h1|⟨h1,h2⟩
  ·cases hG:G g with
   |none=>rfl
   |some k=>rw[h.sub g k hG] at h1;cases h1
  ·exact h.clear h2 g (h1▸hga)⟩
open Go
structure Recd where
 kind:Int
 agent:Int
 try_:Int
 num:Int
 good:Bool
 rel:Rls
 deriving DecidableEq
structure Agt where
 lock:List Pin
 at_:Int
 try_:Int
 going:Bool
 goal:Rls
 good:Bool
 deriving DecidableEq
def recForm(r:Recd):Prop:=(r.agent≠0/\¬(r.kind=6∨r.kind=7))∨(r.try_≠0/\¬(r.kind=1∨r.kind=2∨r.kind=3∨r.kind=6∨r.kind=7))∨(r.num≠0/\¬r.kind=5)∨(r.good=true/\¬(r.kind=3∨r.kind=7))∨(¬noRel r.rel/\¬(r.kind=1∨r.kind=4))
instance (r:Recd):Decidable (recForm r):=by unfold recForm;infer_instance
def recRange(r:Recd):Prop:=r.agent<0∨6<=r.agent∨((r.kind=1∨r.kind=2∨r.kind=3∨r.kind=6∨r.kind=7)/\(r.try_<1∨200<r.try_))∨(r.kind=5/\(r.num<1∨6<r.num))
instance (r:Recd):Decidable (recRange r):=by unfold recRange;infer_instance
def recErr(r:Recd):Int:=if r.kind<1∨9<r.kind then 4 else if recForm r then 4 else if recRange r then 3 else if r.kind=1∨r.kind=4 then relErr r.rel else 0
def agtErr(a:Agt):Int:=
 if lockCheck a.lock≠0 then lockCheck a.lock else
 if a.at_<1∨6<a.at_∨a.try_<0∨200<a.try_ then 3 else
 if a.going=true then(if a.try_=0∨a.good=true then 4 else relErr a.goal) else(if noRel a.goal then 0 else 4)
def noAgt:Agt:=⟨[],0,0,false,⟨0,[]⟩,false⟩
def agtLeft(a:Agt):List Step:=if a.going=true then diffs a.lock a.goal.lock else []
def nextErr(a:Agt)(r:Recd):Int:=
 if agtErr a≠0 then agtErr a else if recErr r≠0 then recErr r else
 if r.kind=1 then(if r.try_<=a.try_ then 7 else 0) else
 if r.kind≠2/\r.kind≠3 then 4 else
 if a.going=false∨r.try_≠a.try_∨(r.kind=2/\agtLeft a=[])∨(r.kind=3/\agtLeft a≠[]) then 7 else 0
def agtNext(a:Agt)(r:Recd):Agt:=
 if r.kind=1 then⟨a.lock,a.at_,r.try_,true,r.rel,false⟩ else
 if r.kind=2 then(match agtLeft a with
  | []=>a
  |o::_=>⟨applied a.lock o,a.at_,a.try_,a.going,a.goal,a.good⟩) else
 ⟨a.lock,a.goal.id,a.try_,false,⟨0,[]⟩,r.good⟩
def nextV(a:Agt)(r:Recd):Agt:=if nextErr a r=0 then agtNext a r else noAgt
def newAgt(r:Rls):Agt:=⟨r.lock,r.id,0,false,⟨0,[]⟩,true⟩
def replayFrom:Agt->List Recd->Except Int Agt
 |a,[]=> .ok a
 |a,r::q=>if nextErr a r=0 then replayFrom (agtNext a r) q else .error (nextErr a r)
def agtReplay(f:Rls)(l:List Recd):Except Int Agt:=if relErr f≠0 then .error (relErr f) else if 200<l.length then .error 2 else replayFrom (newAgt f) l
def okA:Except Int Agt->Agt
 | .ok a=>a
 | .error _=>noAgt
theorem relErr_zero{r:Rls}(h:relErr r=0):(1<=r.id/\r.id<=6)/\Lk r.lock/\r.lock.length<=12:=by
 unfold relErr at h
 split at h
 ·omega
 ·exact⟨by omega,lockCheck_zero.1 h⟩
theorem agtErr_zero{a:Agt}(h:agtErr a=0):(Lk a.lock/\a.lock.length<=12)/\1<=a.at_/\a.at_<=6/\0<=a.try_/\a.try_<=200/\(a.going=true->a.try_≠0/\a.good=false/\relErr a.goal=0)/\(a.going=false->noRel a.goal):=by
 unfold agtErr at h
 split at h
 ·omega
 ·rename_i h1
  have h1:=lockCheck_zero.1 (Decidable.not_not.1 h1)
  split at h
  ·omega
  ·split at h
   ·rename_i h2 h3
    split at h
    ·omega
    ·rename_i h4
     refine⟨h1,by omega,by omega,by omega,by omega,fun _=>⟨fun e=>h4 (.inl e),?_,h⟩,fun e=>by rw[h3] at e;cases e⟩
     cases hg:a.good with
     |false=>rfl
     |true=>exact absurd (.inr hg) h4
   ·rename_i h2 h3
    split at h
    ·rename_i h4;exact⟨h1,by omega,by omega,by omega,by omega,fun e=>absurd e h3,fun _=>h4⟩
    ·omega
theorem agt_goal{a:Agt}(h:agtErr a=0):Lk a.goal.lock/\a.goal.lock.length<=12:=by
 obtain⟨_,_,_,_,_,h1,h2⟩:=agtErr_zero h
 cases hg:a.going with
 |true=>exact(relErr_zero (h1 hg).2.2).2
 |false=>rw[(h2 hg).2];exact⟨Lk.nil,by simp⟩
def recVal(r:Recd)(a:O)(n c:Nat):List Value:=[i64 r.kind,i64 r.agent,i64 r.try_,i64 r.num,.bool r.good,i64 r.rel.id,.slice a n c]
def RRec:Rep Recd:=fun H r m=>∃a n c,r=recVal m a n c/\Pins H a n m.rel.lock
theorem RRec.mono:RRec.Mono:=fun _ _ _ _ e ⟨a,n,c,h,hp⟩=>⟨a,n,c,h,hp.ext' e⟩
abbrev Recs(H:Heap)(a:O)(n:Nat)(l:List Recd):Prop:=Sl RRec 7 H a n l
theorem Sl.recd{H H':Heap}{a:O}{n:Nat}{xs:List Recd}(h:Recs H a n xs)(e:Ext H H'){k:Int}(h0:0<=k)(h1:k<n){F:Int->Int->Int->Int->Bool->Int->O->Nat->Nat->Prop}
  (hF:∀m a n c,xs[k.toNat]?=some m->Pins H a n m.rel.lock->F m.kind m.agent m.try_ m.num m.good m.rel.id a n c):
  ∃(b o:Nat),a=some ⟨b,o,none⟩/\0<=k/\k<n/\∃(x y u v:Int)(q:Bool)(z:Int)(a':O)(n' c':Nat),(H'.cell b (o+k.toNat*7)=some (.int .i64 x)/\H'.cell b (o+k.toNat*7+1)=some (.int .i64 y)/\H'.cell b (o+k.toNat*7+2)=some (.int .i64 u)/\H'.cell b (o+k.toNat*7+3)=some (.int .i64 v)/\
   H'.cell b (o+k.toNat*7+4)=some (.bool q)/\H'.cell b (o+k.toNat*7+5)=some (.int .i64 z)/\H'.cell b (o+k.toNat*7+6)=some (.slice a' n' c')/\True)/\F x y u v q z a' n' c':=by
 obtain⟨b,o,r,x,ha,hx,⟨a',n',c',rfl,hp⟩,hc⟩:=h.get h0 h1
 exact⟨b,o,ha,h0,h1,_,_,_,_,_,_,_,_,_,⟨Heap.cell_next e (hc 0 _ rfl),Heap.cell_next e (hc 1 _ rfl),Heap.cell_next e (hc 2 _ rfl),Heap.cell_next e (hc 3 _ rfl),Heap.cell_next e (hc 4 _ rfl),Heap.cell_next e (hc 5 _ rfl),Heap.cell_next e (hc 6 _ rfl),trivial⟩,hF x a' n' c' hx hp⟩
abbrev recArg(r:Recd)(a:O)(n c:Nat):Value:= .agg #[.int .i64 r.kind,.int .i64 r.agent,.int .i64 r.try_,.int .i64 r.num,.bool r.good,.int .i64 r.rel.id,.slice a n c]
abbrev agtArg(x:Agt)(a:O)(n c:Nat)(ga:O)(gn gc:Nat):Value:= .agg #[.slice a n c,.int .i64 x.at_,.int .i64 x.try_,.bool x.going,.int .i64 x.goal.id,.slice ga gn gc,.bool x.good]
theorem agt_eq{x y:Agt} :x=y↔x.lock=y.lock/\x.at_=y.at_/\x.try_=y.try_/\x.going=y.going/\x.goal=y.goal/\x.good=y.good:=by cases x;cases y;simp
theorem Spec.agt{P:Program}{f:FuncId}{args:List Value}{H:Heap}{x:Agt}{e:Int}(h:Spec P f args H fun v H'=>∃a n c ga gn gc,v= .tuple #[agtArg x a n c ga gn gc,i64 e]/\Pins H' a n x.lock/\Pins H' ga gn x.goal.lock){base:Nat}
  {G:O->Nat->Nat->Int->Int->Bool->Int->O->Nat->Nat->Bool->Int->Heap->Prop} (hG:∀a n c ga gn gc H',Ext H H'->Next base H H'->Pins H' a n x.lock->Pins H' ga gn x.goal.lock->G a n c x.at_ x.try_ x.going x.goal.id ga gn gc x.good e H'):
  Spec P f args H fun v H'=>∃(a:O)(n c:Nat)(n2 n3:Int)(b:Bool)(n4:Int)(a2:O)(n5 c1:Nat)(b3:Bool)(n6:Int),v= .tuple #[.agg #[.slice a n c,.int .i64 n2,.int .i64 n3,.bool b,.int .i64 n4,.slice a2 n5 c1,.bool b3],.int .i64 n6]/\(Next base H H'->G a n c n2 n3 b n4 a2 n5 c1 b3 n6 H'):=
 h.mono fun v H' ex hv=>by
  obtain⟨a,n,c,ga,gn,gc,h1,h2,h3⟩:=hv
  exact⟨a,n,c,_,_,_,_,ga,gn,gc,_,e,h1,fun hN=>hG a n c ga gn gc H' ex hN h2 h3⟩
open Go Go.Proofs
open Go Go.Proofs
theorem cNoteRelease{H:Heap}{a:O}{l c:Nat}{xs:List Pin}(hx:Pins H a l xs)(id:Int):Spec Tryz.prog 167 [.agg #[.int .i64 id,.slice a l c]] H fun v _=>v=i64 (relErr ⟨id,xs⟩):=by
 refine TryzvcJ Tryz.func167 (by kernel_rfl) (by kernel_rfl) _ rfl (fun base K=>vc68 id a l c base H K) fun base hb=> ?_
 intro b
 refine⟨id<1∨6<id,⟨fun _=>⟨rfl,fun _ _ h=>h,by omega⟩,fun _=>⟨rfl,fun _ _ h=>h,by omega⟩⟩,fun h=>by rw[relErr,if_pos h],fun h=> ?_⟩
 refine(cLockCheck hx).int1 fun H1 e1 _=> ?_
 rw[relErr,if_neg h]
theorem rel_eq{id id':Int}{xs ys:List Pin} :((⟨id,xs⟩:Rls)=⟨id',ys⟩)↔id=id'/\xs=ys:=by simp
theorem cAlike{H:Heap}{a a':O}{l c l' c':Nat}{xs ys:List Pin}(hx:Pins H a l xs)(hy:Pins H a' l' ys)(id id':Int):
  Spec Tryz.prog 56 [.agg #[.int .i64 id,.slice a l c],.agg #[.int .i64 id',.slice a' l' c']] H fun v _=>v= .bool (decide ((⟨id,xs⟩:Rls)=⟨id',ys⟩)):=by
 refine TryzvcJ Tryz.func56 (by kernel_rfl) (by kernel_rfl) _ rfl (fun base K=>vc86 id id' a a' l c l' c' base H K) fun base hb=> ?_
 have hxl:=hx.len
 have hyl:=hy.len
 have hle:=hx.le
 intro b b1
 refine⟨id≠id'∨l≠l',⟨fun _=>⟨rfl,fun _ _ h=>h,by omega⟩,fun _=>⟨rfl,fun _ _ h=>h,by omega⟩⟩,fun h=> ?_,fun h=> ?_⟩
 ·rw[decide_eq_false]
  rw[rel_eq]
  rintro⟨rfl,rfl⟩
  omega
 have hid:id=id':=by omega
 have hll:l=l':=by omega
 have hW:decide ((⟨id,xs⟩:Rls)=⟨id',ys⟩)=decide (xs=ys):=by rw[decide_eq_decide,rel_eq];simp[hid]
 rw[hW]
 refine⟨fun vs _=>∃(b:Bool)(k:Nat),vs=[.bool b,i64 k]/\k<=l/\(xs.drop k=ys.drop k↔xs=ys),upTo l 1,⟨false,0,rfl,by omega,by simp⟩,fun b n H' hN hI=> ?_⟩
 obtain⟨b',k,hvs,hk,hI⟩:=hI
 obtain⟨rfl,rfl⟩:b=b'/\n=(k:Int):=by simpa using hvs
 refine⟨fun hlt=>hx.pin hN.ext (by omega) hlt fun p hp=>fun b3=>hy.pin hN.ext (by omega) (by omega) fun q hq=>⟨_,neq48 _ _ _ _,fun h=> ?_,fun h=> ?_⟩,fun hge=> ?_⟩
 ·rw[Int.toNat_natCast] at hp hq
  rw[drop_at hp,drop_at hq] at hI
  rw[decide_eq_false]
  intro e
  obtain⟨rfl,_⟩:=List.cons.inj (hI.2 e)
  simp at h
 ·rw[Int.toNat_natCast] at hp hq
  rw[drop_at hp,drop_at hq] at hI
  have hpq:p=q:=by cases p;cases q;simp at h;simp[h]
  rintro r rfl
  rw[wrap_in (by omega) (by omega)]
  exact⟨rfl,⟨b,k+1,rfl,by omega,by rw[←hI];simp[hpq]⟩,by simp[upTo];omega⟩
 ·rw[decide_eq_true]
  exact hI.1 (by rw[drop_all hxl (by omega),drop_all hyl (by omega)])
theorem len_zero{xs:List Pin}{n:Nat}(h:xs.length=n):(xs=[]↔n=0):=by rw[←h];exact List.length_eq_zero_iff.symm
theorem cWayCheck{H:Heap}{a:O}{l c:Nat}{ms:List Mail}(hx:Mails H a l ms):Spec Tryz.prog 102 [.slice a l c] H fun v _=>v=i64 (mailsCheck ms):=by
 refine TryzvcJ Tryz.func102 (by kernel_rfl) (by kernel_rfl) _ rfl (fun base K=>vc50 a l c base H K) fun base hb=> ?_
 have hl:=hx.len
 refine⟨fun h=>by rw[mailsCheck,if_pos (by omega)],fun h=> ?_⟩
 have hW:mailsCheck ms=mailsFrom ms:=by rw[mailsCheck,if_neg (by omega)]
 rw[hW]
 refine⟨fun vs _=>∃(d:Int)(i:Nat),vs=[i64 d,i64 i]/\i<=l/\mailsFrom (ms.drop i)=mailsFrom ms,upTo l 1,⟨0,0,rfl,by omega,rfl⟩,fun d n H' hN hI=> ?_⟩
 obtain⟨d',i,hvs,hi,hI⟩:=hI
 obtain⟨rfl,rfl⟩:d=d'/\n=(i:Int):=by simpa using hvs
 refine⟨fun hlt=>hx.mail hN.ext (by omega) hlt fun m a' n' c' hm hp=> ?_,fun hge=> ?_⟩
 ·rw[Int.toNat_natCast] at hm
  rw[drop_at hm,mailsFrom] at hI
  have hpl:=hp.len
  have next:mailsFrom (ms.drop (i+1))=mailsFrom ms->∀(Hn:Heap)(r:Int),r=IntKind.wrap .i64 ((i:Int)+1)->(∃(d_1:Int)(i_1:Nat),[Value.int .i64 d,Value.int .i64 r]=[i64 d_1,i64 i_1]/\i_1<=l/\mailsFrom (ms.drop i_1)=mailsFrom ms)/\upTo l 1 [Value.int .i64 d,Value.int .i64 r]<upTo l 1 [Value.int .i64 d,Value.int .i64 (i:Int)]:=by
   rintro hn Hn r rfl
   rw[wrap_small (by omega) (by omega)]
   exact⟨⟨_,i+1,rfl,by omega,hn⟩,by simp[upTo];omega⟩
  intro b
  refine⟨m.agent<0∨6<=m.agent∨m.try_<1∨200<m.try_,?_,fun h1=> ?_,fun h1=> ?_⟩
  ·repeat' (first|exact⟨rfl,fun _ _ h=>h,by omega⟩|intro _|refine⟨?_,?_⟩)
  ·rw[if_pos (show badWho m from h1)] at hI;rw[←hI]
  rw[if_neg (show¬badWho m from h1)] at hI
  refine⟨badForm m,?_,fun h2=> ?_,fun h2=> ?_⟩
  ·have hz:=len_zero hpl
   refine⟨fun hr=>⟨fun g=>⟨rfl,fun _ _ h=>h,.inl ⟨hr,fun h=>g h.1⟩⟩,fun g=>⟨fun g2=>⟨rfl,fun _ _ h=>h,.inl ⟨hr,fun h=>by have:=hz.1 h.2;omega⟩⟩,fun g2=>⟨fun g3=>(by rw[hr] at g3;cases g3),fun _=>⟨rfl,fun _ _ h=>h,?_⟩⟩⟩⟩,
    fun hr=>⟨fun _=>⟨rfl,fun _ _ h=>h,?_⟩,fun g=>absurd hr g⟩⟩
   ·rintro(⟨_,h⟩|⟨h,_⟩)
    ·exact h ⟨Decidable.not_not.1 g,hz.2 (by omega)⟩
    ·rw[hr] at h;cases h
   ·constructor
    ·rintro(⟨h,_⟩|⟨_,h⟩)
     ·rw[hr] at h;cases h
     ·exact h
    ·exact fun h=> .inr ⟨hr,h⟩
  ·rw[if_pos h2] at hI;rw[←hI]
  rw[if_neg h2] at hI
  refine⟨fun h3=> ?_,fun h3=>(cNoteRelease (hp.ext' hN.ext) _).int1 fun H2 e2 _=>⟨fun h4=> ?_,fun h4=> ?_⟩⟩
  ·rw[if_pos h3] at hI
   exact next hI H'
  ·rw[if_neg (by simp[h3]),if_pos h4] at hI;rw[←hI]
  ·rw[if_neg (by simp[h3]),if_neg h4] at hI
   exact next hI H2
 ·rw[←hI,drop_all hx.len (by omega),mailsFrom]
open Go Go.Proofs
theorem cCloneMails{H:Heap}{a:O}{l c:Nat}{ms:List Mail}(hx:Mails H a l ms)(hl:l<=100000):Spec Tryz.prog 42 [.slice a l c] H fun v H'=>∃a n c rs,v= .slice a n c/\Fresh H H' 74 6 a n c rs.flatten/\(∀r∈rs,r.length=6)/\AllR RMail H rs ms:=by
 refine TryzvcJ Tryz.func42 (by kernel_rfl) (by kernel_rfl) _ rfl (fun base K=>vc52 a l c base H K) fun base hb=>⟨_,eqNil Tryz.underlying39,fun h=> ?_,fun h=> ?_⟩
 ·obtain rfl:a=none:=by cases a<;>simp at h⊢
  obtain⟨_,rfl⟩:=hx.addr_nil
  exact⟨none,0,0,[],rfl,Fresh.zero,by simp,trivial⟩
 ·intro g H1 hN1 _ hg
  obtain⟨rs,h1,h2,h3,h4⟩:=hx.rows RMail.len
  exact⟨[],_,Row.zero,h3,allOne_rows RMail.one h2,h4.imp id (fun⟨b,o,hb,hc⟩=>⟨b,o,hb,cellsAt_ext hN1.ext hc⟩),by omega,by omega,fun a3 c3 H3 hG hR=>⟨_,_,_,rs,rfl,hR.fresh hb,h1,h2⟩⟩
theorem Row.at{base:Nat}{H:Heap}{e:TypeId}{sz n c i:Nat}{a:O}{L:List (List Value)}{r:List Value}(h:Row base H e sz a n c L.flatten)(hw:∀r∈L,r.length=sz)(hn:L.length=n)(hr:L[i]?=some r):
  ∃b:Nat,a=some ⟨b,0,none⟩/\∀(j:Nat)(v:Value),r[j]?=some v->H.cell b (0+i*sz+j)=some v:=by
 have hi:i<n:=by have:=(List.getElem?_eq_some_iff.1 hr).1;omega
 obtain⟨b,o,r',ha,hr',hc⟩:=(has_of_row h rfl hw hn).get hi
 rw[hr] at hr'
 obtain rfl:=Option.some.inj hr'
 obtain⟨b',_,hb',_⟩:=h.block (by omega)
 rw[ha] at hb'
 simp at hb'
 obtain⟨rfl,rfl⟩:=hb'
 exact⟨b,ha,hc⟩
theorem cCopy{H:Heap}{a:O}{l c:Nat}{ms:List Mail}(hx:Mails H a l ms)(hl:l<=100000)(hk:∀m∈ms,m.rel.lock.length<=100000):Spec Tryz.prog 172 [.slice a l c] H fun v H'=>∃a n c G rs,v= .slice a n c/\NewSl RMail 6 74 H G H' a n c rs ms:=by
 refine TryzvcJ Tryz.func172 (by kernel_rfl) (by kernel_rfl) _ rfl (fun base K=>vc115 a l c base H K) fun base hb=> ?_
 have hml:=hx.len
 refine(cCloneMails hx hl).mono fun v H1 e1 hv=> ?_
 obtain⟨a1,n1,c1,rs,rfl,hF,hw,hA⟩:=hv
 refine⟨a1,n1,c1,rfl,fun hN1=> ?_⟩
 have hR:=hF.row hN1
 have hrl:rs.length=n1:=by
  have:=hR.1
  rw[flat_wid hw] at this
  omega
 have hrm:=hA.len
 have hclear:c1≠0->∀g,a1=some ⟨g,0,none⟩->H g=none:=fun hc g hg=>by
  rcases hF.2.2.2 with⟨_,h0⟩|⟨g',k,h1,h2,_⟩
  ·exact absurd h0 hc
  ·rw[hg] at h1;simp at h1;subst h1;exact h2
 refine⟨fun vs Hc=>∃(i:Nat)(r1:List (List Value))(G:Heap),vs=[i64 i]/\i<=n1/\r1.length=i/\(∀r∈r1,r.length=6)/\Row base Hc 74 6 a1 n1 c1 (r1++rs.drop i).flatten/\AllR RMail G r1 (ms.take i)/\Away H G/\Ext G Hc/\(c1≠0->∀g,a1=some ⟨g,0,none⟩->G g=none),
  upTo n1 0,⟨0,[],fun _=>none,rfl,by omega,rfl,by simp,hR,by simp[AllR],fun _ _ h=>(by cases h),fun _ _ h=>(by cases h),fun _ _ _=>rfl⟩,fun m H2 hN2 hI=> ?_⟩
 obtain⟨i,r1,G,hvs,hi,hr1,hw1,hR2,hA2,haw,hsub,hcl⟩:=hI
 obtain rfl:m=(i:Int):=by simpa using hvs
 refine⟨fun hlt=> ?_,fun hge=> ?_⟩
 ·have hri:rs[i]?=some (rs[i]'(by omega)):=List.getElem?_eq_getElem (by omega)
  have hmi:ms[i]?=some (ms[i]'(by omega)):=List.getElem?_eq_getElem (by omega)
  generalize hrr:rs[i]'(by omega)=r at hri
  generalize hmm:ms[i]'(by omega)=m at hmi
  obtain⟨la,ln,lc,rfl,hp⟩:=hA.get hri hmi
  have hpl:=hp.len
  have hkm:=hk m (List.mem_of_getElem? hmi)
  have hwL:∀r∈r1++rs.drop i,r.length=6:=fun r hr=>by
   rcases List.mem_append.1 hr with hr|hr
   ·exact hw1 r hr
   ·exact hw r (List.mem_of_mem_drop hr)
  have hat:(r1++rs.drop i)[i]?=some (mailVal m la ln lc):=by
   rw[List.getElem?_append_right (by omega),hr1,Nat.sub_self,List.getElem?_drop,Nat.add_zero];exact hri
  obtain⟨b,hab,hcell⟩:=hR2.at hwL (by simp;omega) hat
  have hd:=drop_at hri
  refine⟨b,0,hab,by omega,hlt,_,_,_,_,_,_,_,_,⟨hcell 0 _ rfl,hcell 1 _ rfl,hcell 2 _ rfl,hcell 3 _ rfl,hcell 4 _ rfl,hcell 5 _ rfl,trivial⟩,fun b2=> ?_⟩
  refine(cCloneJ (hp.ext' hN2.ext) (by omega)).mono fun v H3 e3 hv=> ?_
  obtain⟨a6,n6,c6,rfl,hF6⟩:=hv
  refine⟨a6,n6,c6,rfl,fun hN3=> ?_⟩
  obtain⟨b3,k3,hb3,hbase,hc1,hH2,hf3,hs3,_⟩:=hR2.block (by omega)
  obtain rfl:b=b3:=by rw[hab] at hb3;simpa using hb3
  have hnc:=hR2.2.1
  refine⟨b,0,hab,by omega,hlt,k3,e3 _ _ hH2,hf3,hbase,by rw[hs3,Int.toNat_natCast];omega,fun H4 hu=> ?_⟩
  rintro r rfl
  rw[wrap_in (by omega) (by omega)]
  rw[Int.toNat_natCast] at hu
  have hR4:=(hR2.ext e3).upd hab hc1 (e3 _ _ hH2) (o:=0+i*6+4+1) (vs:=[.slice a6 n6 c6]) (by rw[hR2.1];show 0+i*6+4+1+1<=n1*6;omega) hu
  rw[hd,show 0+i*6+4+1=r1.length*6+5 from by omega,rows_set hw1 rfl (by simp)] at hR4
  have hnew:RMail (G.plus (newOf H2 H3)) (setRange (mailVal m la ln lc) 5 [.slice a6 n6 c6]) m:=⟨a6,n6,c6,rfl,Sl.ext REnc.mono (hF6.sl_new pinCells_len (by omega)) (new_in_grow hsub)⟩
  have hGb:(G.plus (newOf H2 H3)) b=none:=by
   unfold Heap.plus newOf
   rw[hcl hc1 b hab,hH2]
  refine⟨⟨i+1,r1++[setRange (mailVal m la ln lc) 5 [.slice a6 n6 c6]],G.plus (newOf H2 H3),rfl,by omega,by simp[hr1],fun r hr=> ?_,by simpa using hR4,?_,?_,fun x k hx=> ?_,fun _ g hg=> ?_⟩,by simp[upTo];omega⟩
  ·rcases List.mem_append.1 hr with hr|hr
   ·exact hw1 r hr
   ·simp at hr;subst hr;rfl
  ·rw[take_at hmi]
   exact AllR.append (AllR.one hnew) (hA2.mono RMail.mono plus_left)
  ·exact plus_away haw (newOf_away.sub hN2.ext)
  ·have hne:x≠b:=fun e=>by rw[e,hGb] at hx;cases hx
   rw[hu.there x hne]
   exact plus_sub (hsub.trans e3) newOf_ext x k hx
  ·rw[hab] at hg;simp at hg;subst hg;exact hGb
 ·obtain rfl:i=n1:=by omega
  rw[List.drop_eq_nil_of_le (by omega),List.append_nil] at hR2
  rw[List.take_of_length_le (by omega)] at hA2
  exact⟨_,_,_,G,r1,rfl,OwnSl.new ⟨hR2,hw1,hA2,hsub,hcl⟩ hb haw⟩
theorem cSend{H:Heap}{a a':O}{l c l' c':Nat}{ms:List Mail}(hx:Mails H a l ms)(m:Mail)(hp:Pins H a' l' m.rel.lock):
  Spec Tryz.prog 245 [.slice a l c,.agg #[.int .i64 m.agent,.int .i64 m.try_,.bool m.rep,.bool m.good,.int .i64 m.rel.id,.slice a' l' c']] H fun v H'=>∃a n c,v= .tuple #[.slice a n c,i64 (sendErr ms m)]/\n<=c/\Mails H' a n (if sendErr ms m=0 then sent ms m else []):=by
 refine TryzvcJ Tryz.func245 (by kernel_rfl) (by kernel_rfl) _ rfl (fun base K=>vc45 a a' l c l' c' m.agent m.try_ m.rel.id m.rep m.good base H K) fun base hb=> ?_
 intro b g H1 hN1 _ hg
 have hml:=hx.len
 have bx:Mails H1 (some ⟨g,0,none⟩) 1 [m]:=mail_box (m:=m) hg (hp.ext' hN1.ext)
 refine⟨fun vs Hc=>∃(a4:O)(n4 c4:Nat)(d:Int)(k:Nat),vs=[.slice a4 n4 c4,i64 d,i64 k]/\k<=2/\(0<k->mailsCheck ms=0)/\(1<k->mailsCheck [m]=0)/\Ext H1 Hc,upTo 2 2,⟨none,0,0,0,0,rfl,by omega,by omega,by omega,Ext.refl _⟩,fun a4 n4 c4 d n H' hN hI=> ?_⟩
 obtain⟨a4',n4',c4',d',k,hvs,hk,hk0,hk1,he⟩:=hI
 obtain⟨⟨rfl,rfl,rfl⟩,rfl,rfl⟩:(a4=a4'/\n4=n4'/\c4=c4')/\d=d'/\n=(k:Int):=by simpa using hvs
 refine⟨fun hlt=>⟨by omega,hlt,?_⟩,fun hge=> ?_⟩
 ·by_cases k0:k=0
  ·subst k0
   refine⟨a,l,c,rfl,(cWayCheck (hx.ext' hN.ext)).int1 fun H2 e2 _=>⟨fun h=> ?_,fun h=> ?_⟩⟩
   ·have e:sendErr ms m=mailsCheck ms:=by rw[sendErr,if_neg h]
    rw[e,if_neg h]
    exact⟨none,0,0,rfl,by omega,Sl.nil⟩
   ·rintro r rfl
    rw[wrap_small (by omega) (by omega)]
    exact⟨rfl,⟨_,_,_,_,1,rfl,by omega,fun _=>Decidable.not_not.1 h,by omega,he.trans e2⟩,by simp[upTo]⟩
  ·obtain rfl:k=1:=by omega
   refine⟨some ⟨g,0,none⟩,1,1,rfl,(cWayCheck (bx.ext' he)).int1 fun H2 e2 _=>⟨fun h=> ?_,fun h=> ?_⟩⟩
   ·have e:sendErr ms m=mailsCheck [m]:=by rw[sendErr,if_pos (hk0 (by omega))]
    rw[e,if_neg h]
    exact⟨none,0,0,rfl,by omega,Sl.nil⟩
   ·rintro r rfl
    rw[wrap_small (by omega) (by omega)]
    exact⟨rfl,⟨_,_,_,_,2,rfl,by omega,fun _=>hk0 (by omega),fun _=>Decidable.not_not.1 h,he.trans e2⟩,by simp[upTo]⟩
 obtain rfl:k=2:=by omega
 have hE:sendErr ms m=0:=by rw[sendErr,if_pos (hk0 (by omega))];exact hk1 (by omega)
 obtain⟨h40,hlk⟩:=mailsCheck_zero (hk0 (by omega))
 obtain⟨_,hlk1⟩:=mailsCheck_zero (hk1 (by omega))
 rw[hE,if_pos rfl]
 refine(cCopy (hx.ext' hN.ext) (by omega) (fun m hm=>by have:=hlk m hm;omega)).mono fun v H3 e3 hv=> ?_
 obtain⟨a5,n5,c5,G,rs,rfl,hNew⟩:=hv
 refine⟨a5,n5,c5,rfl,fun hN3=> ?_⟩
 have hO:=hNew.own hN3
 obtain⟨_,hn5⟩:=hO.rlen (by omega)
 refine⟨fun hlt=> ?_,fun hge=> ?_⟩
 ·intro g2 H4 hN4 hg2n hg2
  have bx2:Mails H4 (some ⟨g2,0,none⟩) 1 [m]:=mail_box (m:=m) hg2 (((hp.ext' hN.ext).ext' e3).ext' hN4.ext)
  refine(cCopy bx2 (by omega) (fun x hx=>by have:=hlk1 x hx;omega)).mono fun v H5 e5 hv=> ?_
  obtain⟨a6,n6,c6,G',rs',rfl,hNew'⟩:=hv
  refine⟨a6,n6,c6,rfl,fun hN5=> ?_⟩
  have hO':=hNew'.own hN5
  obtain⟨hr6,hn6⟩:=hO'.rlen (by omega)
  have e45:Ext H3 H5:=Ext.trans hN4.ext e5
  have hOg:=hO.grow RMail.mono e45
  obtain⟨rs6,q1,q2,q3,q4⟩:=(hO'.sl RMail.mono (by omega)).rows RMail.len
  have hcells:n6=0∨ ∃(b:Nat)(o:Nat),a6=some ⟨b,o,none⟩/\cellsAt H5 b o 0 rs'.flatten:=by
   by_cases h0:n6=0
   ·exact .inl h0
   ·obtain⟨b6,k6,hb6,_⟩:=hO'.row.block (by omega)
    have:=hO'.row
    rw[hb6] at this
    exact .inr ⟨b6,0,hb6,by simpa using this.cellsAt (k:=0) (by omega) (by omega)⟩
  simp at hn6
  refine⟨rs.flatten,rs'.flatten,hOg.row,by rw[flat_wid hNew'.wid,hr6],allOne_rows RMail.one hNew'.all,hcells,by omega,by omega,fun a7 c7 H7 hG hR7=> ?_⟩
  have hall:AllR RMail (G.plus (newOf H3 H5)) rs' [m]:=hNew'.all_new RMail.mono|>.mono RMail.mono ((newOf_mono hN4.ext).trans (new_in_grow hO.sub))
  have hOf:=hOg.grew hG hR7 hNew'.wid hall
  refine⟨_,_,_,rfl,hOf.row.2.1,?_⟩
  rw[sent,if_pos (by omega)]
  exact hOf.sl RMail.mono (by omega)
 ·refine⟨_,_,_,rfl,hO.row.2.1,?_⟩
  rw[sent,if_neg (by omega)]
  exact hO.sl RMail.mono (by omega)
theorem cTakeR{H:Heap}{a:O}{l c:Nat}{ms:List Mail}(hx:Mails H a l ms)(k:Int)(tw:Bool):
  Spec Tryz.prog 175 [.slice a l c,.int .i64 k,.bool tw] H fun v H'=>∃a n c la ln lc,v= .tuple #[.slice a n c,.agg (mailVal (if takeErr ms k=0 then took ms k else noMail) la ln lc).toArray,i64 (takeErr ms k)]/\Mails H' a n (if takeErr ms k=0 then left ms k tw else [])/\Pins H' la ln (if takeErr ms k=0 then took ms k else noMail).rel.lock/\n<=c:=by
 refine TryzvcJ Tryz.func175 (by kernel_rfl) (by kernel_rfl) _ rfl (fun base K=>vc48 a l c k tw base H K) fun base hb=> ?_
 intro b
 have hml:=hx.len
 refine(cWayCheck hx).int1 fun H1 e1 hN1=>⟨fun h=> ?_,fun h=> ?_⟩
 ·have e:takeErr ms k=mailsCheck ms:=by rw[takeErr,if_neg h]
  rw[e,if_neg h,if_neg h]
  exact⟨none,0,0,none,0,0,rfl,Sl.nil,Sl.nil,Nat.le_refl 0⟩
 have h:=Decidable.not_not.1 h
 obtain⟨h40,hlk⟩:=mailsCheck_zero h
 refine⟨k<0∨(l:Int)<=k,⟨fun _=>⟨rfl,fun _ _ h=>h,by omega⟩,fun _=>⟨rfl,fun _ _ h=>h,by omega⟩⟩,fun hk=> ?_,fun hk=> ?_⟩
 ·have e:takeErr ms k=5:=by rw[takeErr,if_pos h,if_pos (by omega)]
  rw[e,if_neg (by omega),if_neg (by omega)]
  exact⟨none,0,0,none,0,0,rfl,Sl.nil,Sl.nil,Nat.le_refl 0⟩
 have hE:takeErr ms k=0:=by rw[takeErr,if_pos h,if_neg (by omega)]
 rw[hE,if_pos rfl,if_pos rfl]
 refine(cCopy (hx.ext' e1) (by omega) (fun m hm=>by have:=hlk m hm;omega)).mono fun v H3 e3 hv=> ?_
 obtain⟨a5,n5,c5,G,rs,rfl,hNew⟩:=hv
 refine⟨a5,n5,c5,rfl,fun hN3=> ?_⟩
 have hO:=hNew.own hN3
 obtain⟨hr5,hn5⟩:=hO.rlen (by omega)
 have hnc:=hO.row.2.1
 have hmk:ms[k.toNat]?=some (took ms k):=by
  rw[took,List.getD_eq_getElem?_getD,List.getElem?_eq_getElem (by omega)];rfl
 rintro r rfl
 rw[wrap_small (by omega) (by omega)]
 refine⟨by omega,by omega,by omega,fun a6 ha6=> ?_⟩
 have hS3:=hO.sl RMail.mono (by omega)
 have hone:Mails H3 a6 1 [took ms k]:=by
  have:=hS3.sub (l:=k.toNat) (m:=1) (a':=a6) (by omega) (fun _=>ha6 (by omega))
  have e:(ms.drop k.toNat).take 1=[took ms k]:=by rw[drop_at hmk];rfl
  rw[e] at this
  exact this
 rw[show Int.toNat (k+1)-Int.toNat k=1 from by omega]
 refine(cCopy hone (by omega) (fun m hm=>by simp at hm;subst hm;have:=hlk _ (List.mem_of_getElem? hmk);omega)).mono fun v H4 e4 hv=> ?_
 obtain⟨a7,n7,c7,G',rs',rfl,hNew'⟩:=hv
 refine⟨a7,n7,c7,rfl,fun hN4=> ?_⟩
 have hO':=hNew'.own hN4
 obtain⟨hr7,hn7⟩:=hO'.rlen (by omega)
 simp at hn7
 obtain⟨r',rfl⟩:∃r',rs'=[r']:=List.length_eq_one_iff.1 (by omega)
 obtain⟨⟨la,ln,lc,rfl,hp⟩,_⟩:=hO'.all
 obtain⟨b7,hb7,hcell⟩:=hO'.row.at hO'.wid hr7 (i:=0) rfl
 have hpA:=hp.ext' hO'.sub
 refine⟨b7,0,hb7,by decide,by omega,_,_,_,_,_,_,_,_,⟨hcell 0 _ rfl,hcell 1 _ rfl,hcell 2 _ rfl,hcell 3 _ rfl,hcell 4 _ rfl,hcell 5 _ rfl,trivial⟩,fun b2=> ?_⟩
 have hOg:=hO.grow RMail.mono e4
 refine⟨fun ht=> ?_,fun ht=> ?_⟩
 ·rintro r rfl
  refine⟨rs.flatten,k.toNat,k.toNat+1,by omega,by omega,by omega,by omega,by omega,hOg.row,allOne_rows RMail.one hNew.all,fun H5 hG hR5=> ?_⟩
  rw[flat_takeR k.toNat hNew.wid,flat_dropR (k.toNat+1) hNew.wid,←List.flatten_append] at hR5
  have hOf:=hOg.regrew hG hR5 (fun r hr=>by
   rcases List.mem_append.1 hr with hr|hr
   ·exact hNew.wid r (List.mem_of_mem_take hr)
   ·exact hNew.wid r (List.mem_of_mem_drop hr)) (AllR.append (hOg.all.drop (k.toNat+1)) (hOg.all.take k.toNat))
  refine⟨_,_,_,la,ln,lc,rfl,?_,hp.ext' fun x kx hx=> ?_,hOf.row.2.1⟩
  ·rw[left,if_neg (by simp[ht])]
   exact hOf.sl RMail.mono (by omega)
  ·refine hG.keep x kx (hO'.sub x kx hx) ?_
   by_cases hc:c5=0
   ·exact .inl hc
   ·refine .inr fun ha=> ?_
    obtain⟨g,kg,hg1,hg2⟩:=hO.block hc
    rw[ha] at hg1
    obtain rfl:x=g:=by simpa using hg1
    have:=hNew'.away x kx hx
    rw[hg2] at this;cases this
 ·refine⟨_,_,_,la,ln,lc,rfl,?_,hpA,hOg.row.2.1⟩
  rw[left,if_pos (by simpa using ht)]
  exact hOg.sl RMail.mono (by omega)
open Go Go.Proofs
theorem mail_eq{m m':Mail} :m=m'↔m.agent=m'.agent/\m.try_=m'.try_/\m.rep=m'.rep/\m.good=m'.good/\m.rel=m'.rel:=by
 cases m;cases m';simp
abbrev mailArg(m:Mail)(a:O)(n c:Nat):Value:= .agg #[.int .i64 m.agent,.int .i64 m.try_,.bool m.rep,.bool m.good,.int .i64 m.rel.id,.slice a n c]
theorem cMailEqA{H:Heap}{a a':O}{l c l' c':Nat}{m m':Mail}(hp:Pins H a l m.rel.lock)(hq:Pins H a' l' m'.rel.lock):Spec Tryz.prog 132 [mailArg m a l c,mailArg m' a' l' c'] H fun v _=>v= .bool (decide (m=m')):=by
 refine TryzvcJ Tryz.func132 (by kernel_rfl) (by kernel_rfl) _ rfl (fun base K=>vc118 m.agent m.try_ m.rel.id m'.agent m'.try_ m'.rel.id m.rep m.good m'.rep m'.good a a' l c l' c' base H K) fun base hb=> ?_
 intro b b1
 refine⟨m=m',⟨fun h1=>⟨fun h2=>⟨_,eqBool,fun h3=>⟨_,eqBool,fun h4=>(cAlike hp hq _ _).bool1 fun H1 e1 _=>⟨rfl,e1,?_⟩,fun h4=>⟨rfl,fun _ _ h=>h,fun h=>h4 (by simp[h])⟩⟩,fun h3=>⟨rfl,fun _ _ h=>h,fun h=>h3 (by simp[h])⟩⟩,fun h2=>⟨rfl,fun _ _ h=>h,fun h=>h2 (by rw[h])⟩⟩,fun h1=>⟨rfl,fun _ _ h=>h,fun h=>h1 (by rw[h])⟩⟩,?_⟩
 ·rw[mail_eq]
  simp only[beq_iff_eq] at h3 h4
  simp[h1,h2,h3,h4]
  exact⟨fun h=>by rw[h];exact⟨rfl,rfl⟩,fun h=>by cases hm:m.rel;cases hm':m'.rel;simp_all⟩
 ·congr 1
  exact decide_eq_decide.2 Iff.rfl
theorem cSame{H:Heap}{a a':O}{l c l' c':Nat}{xs ys:List Mail}(hx:Mails H a l xs)(hy:Mails H a' l' ys):Spec Tryz.prog 44 [.slice a l c,.slice a' l' c'] H fun v _=>v= .bool (decide (xs=ys)):=by
 have h117:Spec Tryz.prog 131 [.slice a l c,.slice a' l' c',.func (.func 132) #[] #[]] H fun v _=>v= .bool (decide (xs=ys)):=by
  refine TryzvcJ Tryz.func131 (by kernel_rfl) (by kernel_rfl) _ rfl (fun base K=>vc117a a a' l c l' c' base H K) fun base hb=> ?_
  have hxl:=hx.len
  have hyl:=hy.len
  have hle:=hx.le
  refine⟨fun hne=> ?_,fun he=> ?_⟩
  ·rw[decide_eq_false];rintro rfl;omega
  refine⟨fun vs _=>∃(b:Bool)(k:Nat),vs=[.bool b,i64 k]/\k<=l/\(xs.drop k=ys.drop k↔xs=ys),upTo l 1,⟨false,0,rfl,by omega,by simp⟩,fun b n H' hN hI=> ?_⟩
  obtain⟨b',k,hvs,hk,hI⟩:=hI
  obtain⟨rfl,rfl⟩:b=b'/\n=(k:Int):=by simpa using hvs
  refine⟨fun hlt=>hx.mail hN.ext (by omega) hlt fun m a1 n1 c1 hm hp=>fun b4=>hy.mail hN.ext (by omega) (by omega) fun m' a2 n2 c2 hm' hq=>fun b8=>(cMailEqA (hp.ext' hN.ext) (hq.ext' hN.ext)).bool1 fun H2 e2 _=>⟨fun h=> ?_,fun h=> ?_⟩,fun hge=> ?_⟩
  ·rw[Int.toNat_natCast] at hm hm'
   rw[drop_at hm,drop_at hm'] at hI
   rw[decide_eq_false]
   intro e
   exact absurd (List.cons.inj (hI.2 e)).1 (by simpa using h)
  ·rw[Int.toNat_natCast] at hm hm'
   rw[drop_at hm,drop_at hm'] at hI
   have hpq:m=m':=by simpa using h
   rintro r rfl
   rw[wrap_in (by omega) (by omega)]
   exact⟨⟨b,k+1,rfl,by omega,by rw[←hI];simp[hpq]⟩,by simp[upTo];omega⟩
  ·rw[decide_eq_true]
   exact hI.1 (by rw[drop_all hxl (by omega),drop_all hyl (by omega)])
 refine TryzvcJ Tryz.func44 (by kernel_rfl) (by kernel_rfl) _ rfl (fun base K=>vc47 a a' l c l' c' base H K) fun base hb=> ?_
 exact h117.bool1 fun H1 _ _=>rfl
def m1:Mail:=⟨1,2,true,true,⟨0,[]⟩⟩
def m2:Mail:=⟨2,3,false,false,⟨2,[⟨1,2⟩,⟨2,1⟩]⟩⟩
theorem cSecond{H:Heap} :Spec Tryz.prog 72 [] H fun v H'=>∃a n c,v= .agg #[i64 2,.slice a n c]/\Pins H' a n [⟨1,2⟩,⟨2,1⟩]:=by
 refine TryzvcJ Tryz.func72 (by kernel_rfl) (by kernel_rfl) _ rfl (fun base K=>vc116 base H K) fun base hb=> ?_
 intro b g H1 hN1 _ hg
 exact⟨_,_,_,rfl,sl_of_boxE pinCells_len (xs:=[⟨1,2⟩,⟨2,1⟩]) hg rfl (by decide)⟩
open Go Go.Proofs
theorem cIndexByte{H:Heap}(s:ByteArray)(c:Int):Spec Tryz.prog 266 [.string s,.int .u8 c] H fun v _=>v=i64 (Lib.indexByte s.data.toList c.toNat.toUInt8):=by
 refine TryzvcJ Tryz.func266 (by kernel_rfl) (by kernel_rfl) _ rfl (fun base K=>vc158 s c base H K) fun base hb=>⟨_,fun w _=> ?_,rfl⟩
 show(callFunc 286 #[.string s,.int .u8 c]).run Tryz.prog w=_
 rw[run_callFunc_extern Tryz.func286 (by kernel_rfl) (by kernel_rfl) (by kernel_rfl) (e:=Extern.BytealgIndexByte.indexByte) (by kernel_rfl),Lib.run_indexByteString]
 rfl
theorem eqStr{xo yo:Operand}{s t:ByteArray} :RunsTo Tryz.prog (binRun .eql 9 xo yo (.string s) (.string t)) (.bool (s.toList==t.toList)):=by
 intro w
 have hg:(eqGuard .eql 9 xo yo (.string s) (.string t)).run Tryz.prog w= .ok () w:=by simp[eqGuard]
 simp only[binRun,Sem.run_bind,hg,Result.andThen_ok]
 have:=run_equalIn_string (P:= Tryz.prog) w 9999 9 s t Tryz.underlying9
 simp[binOp,Op.equal,this,Op.stringOp]
theorem cStrIndex{H:Heap}(s:ByteArray)(c:UInt8):Spec Tryz.prog 247 [.string s,.string ⟨#[c]⟩] H fun v _=>v=i64 (Lib.indexByte s.data.toList c):=by
 refine TryzvcJ Tryz.func247 (by kernel_rfl) (by kernel_rfl) _ rfl (fun base K=>vc157 s c base H K) fun base hb=> ?_
 have h1:((ByteArray.mk #[c]).size:Int)=1:=rfl
 refine⟨((ByteArray.mk #[c]).toList==s.toList)=true,⟨fun h=>absurd h (by rw[h1];decide),fun _=>⟨_,eqStr,fun _ _ h=>h,Iff.rfl⟩⟩,fun h=> ?_,fun h=>⟨fun _=>⟨(c.toNat:Int),fun w=> ?_,(cIndexByte s (c.toNat:Int)).int1 fun H1 _ _=> ?_⟩,fun h'=>absurd h1 h'⟩⟩
 ·rw[ByteArray.toList_eq,ByteArray.toList_eq,beq_iff_eq] at h
  rw[←h]
  simp[Lib.indexByte]
 ·rw[run_index_string w 9 (ByteArray.mk #[c]) .i64 0 Tryz.underlying9,dif_pos ⟨by omega,by rw[h1];omega⟩]
  rfl
 ·congr 2
  simp
theorem cContains1{H:Heap}(s:ByteArray)(c:UInt8):Spec Tryz.prog 213 [.string s,.string ⟨#[c]⟩] H fun v _=>v= .bool (decide (0<=Lib.indexByte s.data.toList c)):=by
 have h154:Spec Tryz.prog 239 [.string s,.string ⟨#[c]⟩] H fun v _=>v=i64 (Lib.indexByte s.data.toList c):=by
  refine TryzvcJ Tryz.func239 (by kernel_rfl) (by kernel_rfl) _ rfl (fun base K=>vc154 s ⟨#[c]⟩ base H K) fun base hb=> ?_
  exact(cStrIndex s c).int1 fun H1 _ _=>rfl
 refine TryzvcJ Tryz.func213 (by kernel_rfl) (by kernel_rfl) _ rfl (fun base K=>vc144 s ⟨#[c]⟩ base H K) fun base hb=> ?_
 exact h154.int1 fun H1 _ _=>rfl
def usesB(k:Int):ByteArray:=if k=1 then⟨#[116,114]⟩ else if k=2 then⟨#[116]⟩ else if k=3 then⟨#[116,103]⟩ else if k=4 then⟨#[114]⟩ else if k=5 then⟨#[110]⟩ else if k=6 then⟨#[97,116]⟩ else if k=7 then⟨#[97,116,103]⟩ else⟨#[]⟩
theorem nine{k:Int}(h1:1<=k)(h9:k<=9):k=1∨k=2∨k=3∨k=4∨k=5∨k=6∨k=7∨k=8∨k=9:=by omega
theorem cUses{H:Heap}{k:Int}(h1:1<=k)(h9:k<=9):Spec Tryz.prog 230 [.int .i64 k] H fun v _=>v= .string (usesB k):=by
 refine TryzvcJ Tryz.func230 (by kernel_rfl) (by kernel_rfl) _ rfl (fun base K=>vc145 k base H K) fun base hb=>⟨by omega,by omega,usesB k,?_,rfl⟩
 rcases nine h1 h9 with rfl|rfl|rfl|rfl|rfl|rfl|rfl|rfl|rfl<;>rfl
theorem cHas143{H:Heap}{k:Int}(h1:1<=k)(h9:k<=9)(c:UInt8){p:Nat}(hp:H.cell p 0=some (i64 k)):Spec Tryz.prog 229 [.string ⟨#[c]⟩,.pointer (some ⟨p,0,none⟩)] H fun v _=>v= .bool (decide (0<=Lib.indexByte (usesB k).data.toList c)):=by
 refine TryzvcJ Tryz.func229 (by kernel_rfl) (by kernel_rfl) _ rfl (fun base K=>vc143 ⟨#[c]⟩ p base H K) fun base hb=>⟨k,hp,?_⟩
 refine(cUses h1 h9).mono fun v H1 e1 hv=>⟨_,hv,fun hN1=> ?_⟩
 exact(cContains1 (usesB k) c).bool1 fun H2 _ _=>rfl
theorem cHas{G:Bool->Heap->Prop}{k:Int}(h1:1<=k)(h9:k<=9){rest:List Value}{xs:List Bx}{b base:Nat}{Hb H:Heap}(e0:Ext Hb H){c:UInt8}{P:Prop}[Decidable P](hP:0<=Lib.indexByte (usesB k).data.toList c↔P)(hG:∀H',Ext Hb H'->G (decide P) H'):
  true=true/\∀Hl,Vg.Next 0 H Hl->Hl b=some (boxKB 126 (.int .i64 k::rest))/\True->Spec Tryz.prog 229 [.string ⟨#[c]⟩,.pointer (some ⟨b,0,none⟩)] Hl fun v H''=>∃b1:Bool,v= .bool b1/\∀H',Vg.Next base H H'->(∀(b2:Nat)(k:KB),H'' b2=some k->(∀x:Bx,x∈xs->b2≠Bx.b x)->H' b2=some k)->G b1 H':=
 ⟨rfl,fun Hl hN hb=>(cHas143 h1 h9 c (p:=b) (by unfold Heap.cell;rw[hb.1];rfl)).mono fun v H2 _ hv=>⟨decide P,by rw[hv];congr 1;exact decide_eq_decide.2 hP,fun H' hN' _=>hG H' (e0.trans hN'.ext)⟩⟩
section
variable {k : Int} (h1 : 1 <= k) (h9 : k <= 9)
include h1 h9
theorem hasA:0<=Lib.indexByte (usesB k).data.toList 97↔(k=6∨k=7):=by rcases nine h1 h9 with rfl|rfl|rfl|rfl|rfl|rfl|rfl|rfl|rfl<;>decide
theorem hasT:0<=Lib.indexByte (usesB k).data.toList 116↔(k=1∨k=2∨k=3∨k=6∨k=7):=by rcases nine h1 h9 with rfl|rfl|rfl|rfl|rfl|rfl|rfl|rfl|rfl<;>decide
theorem hasN:0<=Lib.indexByte (usesB k).data.toList 110↔k=5:=by rcases nine h1 h9 with rfl|rfl|rfl|rfl|rfl|rfl|rfl|rfl|rfl<;>decide
theorem hasG:0<=Lib.indexByte (usesB k).data.toList 103↔(k=3∨k=7):=by rcases nine h1 h9 with rfl|rfl|rfl|rfl|rfl|rfl|rfl|rfl|rfl<;>decide
theorem hasR:0<=Lib.indexByte (usesB k).data.toList 114↔(k=1∨k=4):=by rcases nine h1 h9 with rfl|rfl|rfl|rfl|rfl|rfl|rfl|rfl|rfl<;>decide
end
theorem cRecCheck{H:Heap}{a:O}{l c:Nat}{r:Recd}(hp:Pins H a l r.rel.lock):Spec Tryz.prog 198 [recArg r a l c] H fun v _=>v=i64 (recErr r):=by
 obtain⟨kd,ag,tr,n,gd,⟨id,lock⟩⟩:=r
 have hp:Pins H a l lock:=hp
 refine TryzvcJ Tryz.func198 (by kernel_rfl) (by kernel_rfl) _ rfl (fun base K=>vc124 kd ag tr n id gd a l c base H K) fun base hb=> ?_
 have hpl:=hp.len
 have hnr:noRel ⟨id,lock⟩↔id=0/\l=0:=by unfold noRel;rw[len_zero hpl]
 intro b
 refine⟨kd<1∨9<kd,⟨fun _=>⟨rfl,fun _ _ h=>h,by omega⟩,fun _=>⟨rfl,fun _ _ h=>h,by omega⟩⟩,fun h=>by rw[recErr,if_pos h],fun h=> ?_⟩
 have h1:1<=kd:=by omega
 have h9:kd<=9:=by omega
 have hA:=hasA h1 h9
 have hT:=hasT h1 h9
 have hN:=hasN h1 h9
 have hG:=hasG h1 h9
 have hR:=hasR h1 h9
 refine⟨recForm ⟨kd,ag,tr,n,gd,⟨id,lock⟩⟩,?_,fun h2=>by rw[recErr,if_neg h,if_pos h2],fun h2=> ?_⟩
 ·have hF:recForm ⟨kd,ag,tr,n,gd,⟨id,lock⟩⟩↔(ag≠0/\¬(kd=6∨kd=7))∨(tr≠0/\¬(kd=1∨kd=2∨kd=3∨kd=6∨kd=7))∨(n≠0/\¬kd=5)∨(gd=true/\¬(kd=3∨kd=7))∨(¬(id=0/\l=0)/\¬(kd=1∨kd=4)):=by unfold recForm;rw[hnr]
  generalize recForm ⟨kd,ag,tr,n,gd,⟨id,lock⟩⟩=φ at hF
  clear hnr hpl hp h
  repeat' (first
   |refine cHas h1 h9 (Hb:=H) (by first|assumption|exact fun _ _ h=>h) hA fun _ _=> ?_
   |refine cHas h1 h9 (Hb:=H) (by first|assumption|exact fun _ _ h=>h) hT fun _ _=> ?_
   |refine cHas h1 h9 (Hb:=H) (by first|assumption|exact fun _ _ h=>h) hN fun _ _=> ?_
   |refine cHas h1 h9 (Hb:=H) (by first|assumption|exact fun _ _ h=>h) hG fun _ _=> ?_
   |refine cHas h1 h9 (Hb:=H) (by first|assumption|exact fun _ _ h=>h) hR fun _ _=> ?_
   |exact⟨rfl,by first|assumption|exact fun _ _ h=>h,by clear hA hT hN hG hR;grind⟩
   |intro _
   |refine⟨?_,?_⟩)
 refine⟨recRange ⟨kd,ag,tr,n,gd,⟨id,lock⟩⟩,?_,fun h3=>by rw[recErr,if_neg h,if_neg h2,if_pos h3],fun h3=> ?_⟩
 ·have hF:recRange ⟨kd,ag,tr,n,gd,⟨id,lock⟩⟩↔ag<0∨6<=ag∨((kd=1∨kd=2∨kd=3∨kd=6∨kd=7)/\(tr<1∨200<tr))∨(kd=5/\(n<1∨6<n)):=Iff.rfl
  generalize recRange ⟨kd,ag,tr,n,gd,⟨id,lock⟩⟩=φ at hF
  clear hnr hpl hp h h2
  repeat' (first
   |refine cHas h1 h9 (Hb:=H) (by first|assumption|exact fun _ _ h=>h) hT fun _ _=> ?_
   |refine cHas h1 h9 (Hb:=H) (by first|assumption|exact fun _ _ h=>h) hN fun _ _=> ?_
   |exact⟨rfl,by first|assumption|exact fun _ _ h=>h,by clear hA hT hN hG hR;grind⟩
   |intro _
   |refine⟨?_,?_⟩)
 refine cHas h1 h9 (Hb:=H) (fun _ _ h=>h) hR fun H2 e2=>⟨fun hb=> ?_,fun hb=> ?_⟩
 ·refine(cNoteRelease (hp.ext' e2) id).int1 fun H3 _ _=> ?_
  rw[recErr,if_neg h,if_neg h2,if_neg h3,if_pos (by simpa using hb)]
 ·rw[recErr,if_neg h,if_neg h2,if_neg h3,if_neg (by simpa using hb)]
open Go

def wordOf(p:Pin):List UInt8:=Lib.itoa p.name++64::Lib.itoa p.ver
def lockText(l:List Pin):List UInt8:=joinB 44 (l.map wordOf)
def readPin(w:List UInt8):Option Pin:=
 if(Lib.cut w [64]).2.2=true then
  (match num (Lib.cut w [64]).1,num (Lib.cut w [64]).2.1 with
   |some n,some v=>some ⟨n,v⟩
   |_,_=>none)
 else none
def readPins:List (List UInt8)->Option (List Pin)
 | []=>some []
 |w::ws=>match readPin w with
  |none=>none
  |some p=>(readPins ws).map (p:: ·)
def readWords(s:List UInt8):Option (List Pin):=if s=[] then some [] else readPins (cuts 44 s)
def lockRead(s:List UInt8):Except Int (List Pin):=
 match readWords s with
 |none=> .error 1
 |some l=>if lockCheck l=0 then .ok l else .error (lockCheck l)
theorem pin_range{l:List Pin}(h:lockCheck l=0){p:Pin}(hp:p∈l):1<=p.name/\p.name<=20/\1<=p.ver/\p.ver<=99:=(lockCheck_zero.1 h).1.name hp
theorem readPin_word{p:Pin}(h1:1<=p.name/\p.name<=20/\1<=p.ver/\p.ver<=99):readPin (wordOf p)=some p:=by
 unfold readPin wordOf
 rw[cut_hit (itoa_not _ (by decide) (by decide))]
 dsimp only
 rw[num_itoa (by omega) (by omega),num_itoa (by omega) (by omega)]
 rfl
theorem word_of_readPin{w:List UInt8}{p:Pin}(h:readPin w=some p):wordOf p=w:=by
 unfold readPin at h
 rcases cut_cases 64 w with⟨_,e⟩|⟨a,b,rfl,h2,e⟩
 ·rw[e] at h;simp at h
 ·rw[e] at h
  dsimp only at h
  rw[if_pos rfl] at h
  split at h
  ·rename_i n v hn hv
   obtain rfl:=Option.some.inj h
   rw[wordOf,(num_some hn).1,(num_some hv).1]
  ·cases h
theorem word_bytes{p:Pin}{c:UInt8}(h1:c.toNat≠45)(h2:c.toNat<48∨57<c.toNat)(h3:c≠64):c∉wordOf p:=by
 unfold wordOf
 simp only[List.mem_append,List.mem_cons,not_or]
 exact⟨itoa_not _ h1 h2,h3,itoa_not _ h1 h2⟩
theorem readPins_words:∀ {l:List Pin},(∀p∈l,1<=p.name/\p.name<=20/\1<=p.ver/\p.ver<=99)->readPins (l.map wordOf)=some l
 | [],_=>rfl
 |p::r,h=>by
  rw[List.map_cons,readPins,readPin_word (h p (by simp)),readPins_words fun q hq=>h q (by simp[hq])]
  rfl
theorem words_of_readPins:∀ {ws:List (List UInt8)} {l:List Pin},readPins ws=some l->l.map wordOf=ws
 | [],l,h=>by obtain rfl:=Option.some.inj h;rfl
 |w::ws,l,h=>by
  rw[readPins] at h
  split at h
  ·cases h
  ·rename_i p hp
   obtain⟨m,hm,rfl⟩:=Option.map_eq_some_iff.1 h
   rw[List.map_cons,word_of_readPin hp,words_of_readPins hm]
theorem wordOf_ne(p:Pin):wordOf p≠[]:=by unfold wordOf;simp
theorem lockText_nil{l:List Pin} :lockText l=[]↔l=[]:=by
 unfold lockText
 cases l with
 |nil=>simp[joinB]
 |cons p r=>simp[joinB,wordOf_ne]
theorem readWords_text{l:List Pin}(h:∀p∈l,1<=p.name/\p.name<=20/\1<=p.ver/\p.ver<=99):readWords (lockText l)=some l:=by
 unfold readWords
 by_cases hl:l=[]
 ·subst hl;rfl
 ·rw[if_neg fun e=>hl (lockText_nil.1 e),lockText,cuts_joinB (by simpa using hl) fun w hw=>by
   obtain⟨p,_,rfl⟩:=List.mem_map.1 hw
   exact word_bytes (by decide) (by decide) (by decide),readPins_words h]
theorem text_of_readWords{s:List UInt8}{l:List Pin}(h:readWords s=some l):lockText l=s:=by
 unfold readWords at h
 split at h
 ·rename_i e
  obtain rfl:=Option.some.inj h
  rw[e];rfl
 ·rw[lockText,words_of_readPins h,joinB_cuts]
theorem lockRead_text{l:List Pin}(h:lockCheck l=0):lockRead (lockText l)= .ok l:=by
 rw[lockRead,readWords_text fun p hp=>pin_range h hp]
 dsimp only
 rw[if_pos h]
theorem lockRead_ok{s:List UInt8}{l:List Pin}(h:lockRead s= .ok l):lockText l=s/\lockCheck l=0:=by
 unfold lockRead at h
 split at h
 ·cases h
 ·rename_i m hm
  split at h
  ·rename_i h0
   obtain rfl:=Except.ok.inj h
   exact⟨text_of_readWords hm,h0⟩
  ·cases h
theorem lockRead_err{s:List UInt8}{e:Int}(h:lockRead s= .error e):e≠0:=by
 unfold lockRead at h
 split at h
 ·obtain rfl:=Except.error.inj h;decide
 ·split at h
  ·cases h
  ·rename_i h0
   obtain rfl:=Except.error.inj h;exact h0
theorem word_len{p:Pin}(h:1<=p.name/\p.name<=20/\1<=p.ver/\p.ver<=99):(wordOf p).length<=5:=by
 unfold wordOf
 have h1:=itoa_short (n:=p.name) (by omega) (by omega)
 have h2:=itoa_short (n:=p.ver) (by omega) (by omega)
 simp;omega
theorem flat_words:∀ {ws:List (List UInt8)} {k:Nat},(∀w∈ws,w.length<=k)->(ws.flatMap fun x=>(44:UInt8)::x).length<=ws.length*(k+1)
 | [],k,_=>by simp
 |w::r,k,h=>by
  have h1:=h w (by simp)
  have h2:=flat_words (ws:=r) (k:=k) fun x hx=>h x (by simp[hx])
  simp only[List.flatMap_cons,List.length_append,List.length_cons,Nat.succ_mul]
  omega
theorem lockText_len{l:List Pin}(h:lockCheck l=0):(lockText l).length<=72:=by
 have h1:=(lockCheck_zero.1 h).2
 unfold lockText
 cases l with
 |nil=>simp[joinB]
 |cons p r=>
  have hw:∀w∈r.map wordOf,w.length<=5:=fun w hw=>by
   obtain⟨q,hq,rfl⟩:=List.mem_map.1 hw
   exact word_len (pin_range h (by simp[hq]))
  have h2:=flat_words hw
  have h3:=word_len (pin_range h (p:=p) (by simp))
  simp only[List.map_cons,joinB,List.length_append,List.length_map] at h2⊢
  simp at h1
  omega
theorem lockText_byte{l:List Pin}{c:UInt8}(h1:c.toNat≠45)(h2:c.toNat<48∨57<c.toNat)(h3:c≠64)(h4:c≠44):c∉lockText l:=by
 unfold lockText
 cases l with
 |nil=>simp[joinB]
 |cons p r=>
  simp only[List.map_cons,joinB,List.mem_append,List.mem_flatMap,List.mem_cons,not_or,not_exists,not_and,List.mem_map]
  refine⟨word_bytes h1 h2 h3,?_⟩
  rintro w ⟨q,_,rfl⟩
  exact⟨h4,word_bytes h1 h2 h3⟩

def goodNo(b:Bool):Int:=if b=true then 1 else 0
def recNums(r:Recd):List Int:=[r.kind,r.agent,r.try_,r.num,goodNo r.good,r.rel.id]
def recText(r:Recd):List UInt8:=(recNums r).flatMap (fun n=>Lib.itoa n++[32])++61::lockText r.rel.lock
def nums:List (List UInt8)->Option (List Int)
 | []=>some []
 |w::ws=>match num w with
  |none=>none
  |some n=>(nums ws).map (n:: ·)
def recRead(s:List UInt8):Except Int Recd:=
 match cuts 32 s with
 | [w0,w1,w2,w3,w4,w5,w6]=>
  if w6.head?=some 61 then
   (match nums [w0,w1,w2,w3,w4,w5] with
    |some [k,a,tr,n,g,id]=>
     if g<0∨1<g then .error 1 else
     (match lockRead (w6.drop 1) with
     | .error e=> .error e
     | .ok l=>let r:Recd:=⟨k,a,tr,n,decide (g=1),⟨id,l⟩⟩
      if recErr r=0 then .ok r else .error (recErr r))
    |_=> .error 1)
  else .error 1
 |_=> .error 1
theorem recErr_lock{r:Recd}(h:recErr r=0):lockCheck r.rel.lock=0:=by
 unfold recErr at h
 split at h
 ·omega
 ·rename_i hk
  split at h
  ·omega
  ·rename_i hf
   split at h
   ·omega
   ·split at h
    ·have:=(relErr_zero h).2
     exact lockCheck_zero.2 this
    ·rename_i hn
     unfold recForm at hf
     have:noRel r.rel:=Decidable.byContradiction fun hx=>hf (.inr (.inr (.inr (.inr ⟨hx,hn⟩))))
     rw[this.2];rfl
theorem recErr_nums{r:Recd}(h:recErr r=0):∀n∈recNums r,0<=n/\n<=200:=by
 unfold recErr at h
 split at h
 ·omega
 ·rename_i hk
  split at h
  ·omega
  ·rename_i hf
   split at h
   ·omega
   ·rename_i hr
    have hid:0<=r.rel.id/\r.rel.id<=6:=by
     split at h
     ·have:=(relErr_zero h).1;omega
     ·rename_i hn
      have:noRel r.rel:=Decidable.byContradiction fun hx=>hf (by unfold recForm;exact .inr (.inr (.inr (.inr ⟨hx,hn⟩))))
      have:=this.1;omega
    unfold recForm at hf
    unfold recRange at hr
    have hg:0<=goodNo r.good/\goodNo r.good<=1:=by unfold goodNo;split<;>omega
    simp only[not_or,not_and,Decidable.not_not] at hf hr
    simp only[recNums,List.mem_cons,List.not_mem_nil,or_false]
    rintro n (rfl|rfl|rfl|rfl|rfl|rfl)<;>omega
theorem recText_words(r:Recd):recText r=joinB 32 ((recNums r).map Lib.itoa++[61::lockText r.rel.lock]):=by
 simp[recText,recNums,joinB]
theorem nums_itoa:∀ {l:List Int},(∀n∈l,-9223372036854775808<=n/\n<=9223372036854775807)->nums (l.map Lib.itoa)=some l
 | [],_=>rfl
 |n::r,h=>by
  rw[List.map_cons,nums,num_itoa (h n (by simp)).1 (h n (by simp)).2,nums_itoa fun m hm=>h m (by simp[hm])]
  rfl
theorem itoa_of_nums:∀ {ws:List (List UInt8)} {l:List Int},nums ws=some l->l.map Lib.itoa=ws
 | [],l,h=>by obtain rfl:=Option.some.inj h;rfl
 |w::ws,l,h=>by
  rw[nums] at h
  split at h
  ·cases h
  ·rename_i n hn
   obtain⟨m,hm,rfl⟩:=Option.map_eq_some_iff.1 h
   rw[List.map_cons,(num_some hn).1,itoa_of_nums hm]
theorem recText_cuts(r:Recd):cuts 32 (recText r)=[Lib.itoa r.kind,Lib.itoa r.agent,Lib.itoa r.try_,Lib.itoa r.num,Lib.itoa (goodNo r.good),Lib.itoa r.rel.id,61::lockText r.rel.lock]:=by
 rw[recText_words,cuts_joinB (by simp)]
 ·rfl
 ·intro w hw
  rcases List.mem_append.1 hw with hw|hw
  ·obtain⟨n,_,rfl⟩:=List.mem_map.1 hw
   exact itoa_not _ (by decide) (by decide)
  ·simp only[List.mem_singleton] at hw
   subst hw
   simp only[List.mem_cons,not_or]
   exact⟨by decide,lockText_byte (by decide) (by decide) (by decide) (by decide)⟩
theorem recRead_text{r:Recd}(h:recErr r=0):recRead (recText r)= .ok r:=by
 have hn:=recErr_nums h
 have hg:goodNo r.good=0∨goodNo r.good=1:=by unfold goodNo;split<;>simp
 have h5:=nums_itoa (l:=recNums r) fun n hm=>by have:=hn n hm;omega
 simp only[recNums,List.map_cons,List.map_nil] at h5
 unfold recRead
 rw[recText_cuts]
 dsimp only
 rw[if_pos (by rfl),h5]
 dsimp only
 rw[if_neg (by omega),List.drop_succ_cons,List.drop_zero,lockRead_text (recErr_lock h)]
 have he:(⟨r.kind,r.agent,r.try_,r.num,decide (goodNo r.good=1),⟨r.rel.id,r.rel.lock⟩⟩:Recd)=r:=by
  have:decide (goodNo r.good=1)=r.good:=by unfold goodNo;cases r.good<;>simp
  rw[this]
 dsimp only
 rw[he,if_pos h]
theorem recRead_ok{s:List UInt8}{r:Recd}(h:recRead s= .ok r):recText r=s/\recErr r=0:=by
 unfold recRead at h
 split at h
 ·rename_i w0 w1 w2 w3 w4 w5 w6 hc
  split at h
  case isFalse=>cases h
  rename_i h61
  obtain⟨t,rfl⟩:∃t,w6=61::t:=by
   cases w6 with
   |nil=>cases h61
   |cons x t=>exact⟨t,by simp at h61;rw[h61]⟩
  rw[List.drop_succ_cons,List.drop_zero] at h
  split at h
  ·rename_i k a tr n g id hn
   split at h
   ·cases h
   ·rename_i hg
    split at h
    ·cases h
    ·rename_i l hl
     dsimp only at h
     split at h
     ·rename_i h0
      obtain rfl:=Except.ok.inj h
      refine⟨?_,h0⟩
      have e1:=itoa_of_nums hn
      have e2:=(lockRead_ok hl).1
      have e3:goodNo (decide (g=1))=g:=by
       unfold goodNo
       by_cases e:g=1
       ·simp[e]
       ·simp[e];omega
      rw[recText_words,←joinB_cuts 32 s,hc]
      simp only[List.map_cons,List.map_nil] at e1
      simp only[recNums,e3,List.map_cons,List.map_nil,e2]
      rw[show∀(a b c d e f g:List UInt8),[a,b,c,d,e,f]++[g]=[a,b,c,d,e,f,g] from fun _ _ _ _ _ _ _=>rfl]
      injection e1 with a1 e1
      injection e1 with a2 e1
      injection e1 with a3 e1
      injection e1 with a4 e1
      injection e1 with a5 e1
      injection e1 with a6 e1
      rw[a1,a2,a3,a4,a5,a6]
     ·cases h
  ·cases h
 ·cases h
theorem recRead_err{s:List UInt8}{e:Int}(h:recRead s= .error e):e≠0:=by
 unfold recRead at h
 split at h
 ·split at h
  ·split at h
   ·split at h
    ·obtain rfl:=Except.error.inj h;decide
    ·split at h
     ·rename_i hl
      obtain rfl:=Except.error.inj h
      exact lockRead_err hl
     ·dsimp only at h
      split at h
      ·cases h
      ·rename_i h0
       obtain rfl:=Except.error.inj h;exact h0
   ·obtain rfl:=Except.error.inj h;decide
  ·obtain rfl:=Except.error.inj h;decide
 ·obtain rfl:=Except.error.inj h;decide
theorem recText_len{r:Recd}(h:recErr r=0):(recText r).length<=97:=by
 have hn:=recErr_nums h
 have h1:=lockText_len (recErr_lock h)
 have h2:∀n∈recNums r,(Lib.itoa n).length<=3:=fun n hm=>itoa_short3 (hn n hm).1 (by have:=(hn n hm).2;omega)
 simp only[recNums,List.mem_cons,List.not_mem_nil,or_false] at h2
 have a1:=h2 _ (.inl rfl)
 have a2:=h2 _ (.inr (.inl rfl))
 have a3:=h2 _ (.inr (.inr (.inl rfl)))
 have a4:=h2 _ (.inr (.inr (.inr (.inl rfl))))
 have a5:=h2 _ (.inr (.inr (.inr (.inr (.inl rfl)))))
 have a6:=h2 _ (.inr (.inr (.inr (.inr (.inr rfl)))))
 simp[recText,recNums]
 omega
theorem recText_line{r:Recd} :(10:UInt8)∉recText r:=by
 simp only[recText,List.mem_append,List.mem_flatMap,List.mem_cons,List.not_mem_nil,or_false,not_or,not_exists,not_and]
 refine⟨fun n _=>⟨itoa_not _ (by decide) (by decide),by decide⟩,by decide,lockText_byte (by decide) (by decide) (by decide) (by decide)⟩
open Go

def linesW(most:Nat):Nat->List (List UInt8)->List Recd×Nat×Int
 |_,[]=>([],0,0)
 |_,[w]=>([],0,if w=[] then 0 else 9)
 |k,w::x::ws=>
  match recRead w with
  | .error e=>([],0,e)
  | .ok r=>if k=most then([],0,2) else(r::(linesW most (k+1) (x::ws)).1,w.length+1+(linesW most (k+1) (x::ws)).2.1,(linesW most (k+1) (x::ws)).2.2)
def linesF(most k:Nat)(s:List UInt8):List Recd×Nat×Int:=linesW most k (cuts 10 s)
theorem linesF_nil{most k:Nat} :linesF most k []=([],0,0):=rfl
theorem linesF_torn{most k:Nat}{s:List UInt8}(h:(10:UInt8)∉s)(hs:s≠[]):linesF most k s=([],0,9):=by
 rw[linesF,cuts_word h,linesW,if_neg hs]
theorem linesF_line{most k:Nat}{w t:List UInt8}(h:(10:UInt8)∉w):linesF most k (w++10::t)=match recRead w with
  | .error e=>([],0,e)
  | .ok r=>if k=most then([],0,2) else(r::(linesF most (k+1) t).1,w.length+1+(linesF most (k+1) t).2.1,(linesF most (k+1) t).2.2):=by
 rw[linesF,cuts_more h]
 unfold linesF
 cases hc:cuts 10 t with
 |nil=>exact absurd hc (cuts_ne 10 t)
 |cons x ws=>rfl
theorem linesF_err{most k:Nat}{w t:List UInt8}{e:Int}(h:(10:UInt8)∉w)(hr:recRead w= .error e):linesF most k (w++10::t)=([],0,e):=by
 rw[linesF_line h,hr]
theorem linesF_many{most:Nat}{w t:List UInt8}{r:Recd}(h:(10:UInt8)∉w)(hr:recRead w= .ok r):linesF most most (w++10::t)=([],0,2):=by
 rw[linesF_line h,hr];simp
theorem linesF_more{most k:Nat}{w t:List UInt8}{r:Recd}(h:(10:UInt8)∉w)(hr:recRead w= .ok r)(hk:k≠most):
  linesF most k (w++10::t)=(r::(linesF most (k+1) t).1,w.length+1+(linesF most (k+1) t).2.1,(linesF most (k+1) t).2.2):=by
 rw[linesF_line h,hr];simp[hk]
def recsText(rs:List Recd):List UInt8:=rs.flatMap fun r=>recText r++[10]
theorem recsText_cons{r:Recd}{rs:List Recd} :recsText (r::rs)=recText r++10::recsText rs:=by simp[recsText]
theorem recsText_app{rs qs:List Recd} :recsText (rs++qs)=recsText rs++recsText qs:=by simp[recsText]
theorem linesF_recs{most:Nat} :∀ {rs:List Recd} {k:Nat} {t:List UInt8},(∀r∈rs,recErr r=0)->k+rs.length<=most->(10:UInt8)∉t->
  linesF most k (recsText rs++t)=(rs,(recsText rs).length,if t=[] then 0 else 9)
 | [],k,t,_,_,ht=>by
  rw[show recsText []++t=t from rfl,linesF,cuts_word ht]
  rfl
 |r::rs,k,t,h,hk,ht=>by
  have hl:(r::rs).length=rs.length+1:=rfl
  rw[recsText_cons,List.append_assoc,List.cons_append,linesF_more recText_line (recRead_text (h r (by simp))) (by omega),linesF_recs (fun q hq=>h q (by simp[hq])) (by omega) ht]
  simp[recsText]
  omega
theorem linesF_ok{most:Nat} :∀(n:Nat) {s:List UInt8} {k:Nat},s.length<=n->k<=most->(∀r∈(linesF most k s).1,recErr r=0)/\k+(linesF most k s).1.length<=most/\
  (linesF most k s).2.1<=s.length/\s.take (linesF most k s).2.1=recsText (linesF most k s).1/\((linesF most k s).2.2=0->(linesF most k s).2.1=s.length)
 |0,s,k,hn,hk=>by
  obtain rfl:s=[]:=List.length_eq_zero_iff.1 (by omega)
  rw[linesF_nil]
  exact⟨by simp,by simpa using hk,by simp,rfl,fun _=>rfl⟩
 |n+1,s,k,hn,hk=>by
  rcases cut_cases 10 s with⟨h1,_⟩|⟨w,t,rfl,hw,_⟩
  ·by_cases hs:s=[]
   ·subst hs;rw[linesF_nil]
    exact⟨by simp,by simpa using hk,by simp,rfl,fun _=>rfl⟩
   ·rw[linesF_torn h1 hs]
    exact⟨by simp,by simpa using hk,by simp,rfl,fun h=>by cases h⟩
  ·cases hr:recRead w with
   |error e=>
    rw[linesF_err hw hr]
    exact⟨by simp,by simpa using hk,by simp,rfl,fun h=>absurd h (recRead_err hr)⟩
   |ok r=>
    by_cases hkm:k=most
    ·subst hkm
     rw[linesF_many hw hr]
     exact⟨by simp,by simp,by simp,rfl,fun h=>by cases h⟩
    ·rw[linesF_more hw hr hkm]
     have hl:(w++10::t).length=w.length+1+t.length:=by simp;omega
     obtain⟨i1,i2,i3,i4,i5⟩:=linesF_ok (most:=most) n (s:=t) (k:=k+1) (by omega) (by omega)
     obtain⟨hr1,hr2⟩:=recRead_ok hr
     refine⟨fun q hq=> ?_,?_,?_,?_,fun h=> ?_⟩
     ·rcases List.mem_cons.1 hq with rfl|hq
      ·exact hr2
      ·exact i1 q hq
     ·simp only[List.length_cons];omega
     ·dsimp only;omega
     ·dsimp only
      rw[recsText_cons,hr1,←i4]
      rw[show w++10::t=(w++[10])++t from by simp,List.take_append,show w++10::t.take (linesF most (k+1) t).2.1=(w++[10])++t.take (linesF most (k+1) t).2.1 from by simp]
      congr 1
      ·rw[List.take_of_length_le (by simp)]
      ·congr 1;simp
     ·dsimp only at h⊢
      have:=i5 h;omega
structure Dsk where
 safe:List UInt8
 wait:List UInt8
deriving DecidableEq
def dsk0:Dsk:=⟨[],[]⟩
def dskErr(d:Dsk):Int:=
 if 60000<d.safe.length then 2 else if 60000-d.safe.length<d.wait.length then 2 else(linesF 200 0 d.safe).2.2
def dskPut(d:Dsk)(r:Recd):Except Int Dsk:=
 if dskErr d=0 then
  (if recErr r=0 then
   (if 60000<d.safe.length+d.wait.length+(recText r).length+1 then .error 2 else .ok ⟨d.safe,d.wait++(recText r++[10])⟩)
  else .error (recErr r))
 else .error (dskErr d)
def dskSync(d:Dsk):Except Int Dsk:=
 if dskErr d=0 then(if dskErr ⟨d.safe++d.wait,[]⟩=0 then .ok ⟨d.safe++d.wait,[]⟩ else .error (dskErr ⟨d.safe++d.wait,[]⟩)) else .error (dskErr d)
def dskMore(d:Dsk):List Recd×Nat×Int:=linesF (200-(linesF 200 0 d.safe).1.length) 0 d.wait
def dskBack(d:Dsk):Dsk:=⟨d.safe++d.wait.take (dskMore d).2.1,[]⟩
def dskRecs(d:Dsk):List Recd:=(linesF 200 0 d.safe).1++(dskMore d).1
theorem dskErr_zero{d:Dsk}(h:dskErr d=0):d.safe.length<=60000/\d.safe.length+d.wait.length<=60000/\(linesF 200 0 d.safe).2.2=0:=by
 unfold dskErr at h
 split at h
 ·cases h
 ·split at h
  ·cases h
  ·exact⟨by omega,by omega,h⟩
theorem dskErr_recs{rs:List Recd}{w:List UInt8}(h:∀r∈rs,recErr r=0)(hn:rs.length<=200)(hl:(recsText rs).length+w.length<=60000):dskErr ⟨recsText rs,w⟩=0:=by
 have:=linesF_recs (most:=200) (k:=0) (t:=[]) h (by omega) (by simp)
 rw[List.append_nil] at this
 unfold dskErr
 dsimp only
 rw[if_neg (by omega),if_neg (by omega),this]
 rfl
theorem lines_recs{rs:List Recd}{most:Nat}(h:∀r∈rs,recErr r=0)(hn:rs.length<=most):linesF most 0 (recsText rs)=(rs,(recsText rs).length,0):=by
 have:=linesF_recs (most:=most) (k:=0) (t:=[]) h (by omega) (by simp)
 rw[List.append_nil] at this
 rw[this];rfl
theorem recsText_len{rs:List Recd}(h:∀r∈rs,recErr r=0):(recsText rs).length<=rs.length*98:=by
 induction rs with
 |nil=>simp[recsText]
 |cons r t ih=>
  have h1:=recText_len (h r (by simp))
  have h2:=ih fun q hq=>h q (by simp[hq])
  rw[recsText_cons]
  simp only[List.length_append,List.length_cons,Nat.succ_mul]
  omega
theorem dskPut_ok{d x:Dsk}{r:Recd}(h:dskPut d r= .ok x):dskErr d=0/\recErr r=0/\d.safe.length+d.wait.length+(recText r).length+1<=60000/\x=⟨d.safe,d.wait++(recText r++[10])⟩:=by
 unfold dskPut at h
 split at h
 ·rename_i h1
  split at h
  ·rename_i h2
   split at h
   ·cases h
   ·rename_i h3
    exact⟨h1,h2,by omega,(Except.ok.inj h).symm⟩
  ·cases h
 ·cases h
theorem dsk_again{rs:List Recd}(h:∀r∈rs,recErr r=0)(hn:rs.length<=200)(hl:(recsText rs).length<=60000):
  dskErr ⟨recsText rs,[]⟩=0/\dskRecs ⟨recsText rs,[]⟩=rs/\dskBack ⟨recsText rs,[]⟩=⟨recsText rs,[]⟩:=by
 have hL:=lines_recs (most:=200) h hn
 refine⟨dskErr_recs h hn (by simpa using hl),?_,?_⟩
 ·unfold dskRecs dskMore
  dsimp only
  rw[hL,linesF_nil];simp
 ·unfold dskBack;simp
end Go.Vg
