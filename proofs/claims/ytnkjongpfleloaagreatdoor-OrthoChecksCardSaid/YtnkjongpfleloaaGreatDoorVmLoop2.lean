/-
 A body of code with loops of whatever kind; a function's contract from it.
-/
import Derived.Test.YtnkjongpfleloaaGreatDoorVmE
set_option linter.unusedVariables false
set_option linter.unusedSimpArgs false
namespace Go.Vm
section
variable {P:Program}{C:Ctx}{w0:World}{M:Own}{N:Nat}{A:Anns}
theorem oL:∀{ins:List (Mode×Ty)} {y:(aa (aS ins)).den} {site:Nat} {G:Heap} (k:Nat),fN ins k=[]->bT ins (qs ins k) y site G=some G
 |[],_,_,_,_,_=>rfl
 |(.rd,_)::r,y,site,G,k,h=>oL (ins:=r) (k+1) h
 |(.take,_)::r,y,site,G,k,h=>oL (ins:=r) (k+1) h
 |(.upd,_)::_,_,_,_,_,h=>by simp[fN]at h
 |(.box _,_)::_,_,_,_,_,h=>by simp[fN]at h
theorem xR {L:Loops}{f:FuncId}{fn:Func}{body:Code}{ins:List (Mode×Ty)}{outs:lY}{M:(aa (ins.map (·.2))).den->Option (aa ((outs.map (·.2)).map (·.2)++aS ins)).den}
  (hC : CtxOK P C) (hD : kZ P) (hf : P.funcs[f]? = some fn) (hb : fn.body = some body) (hn : (fn.name == "runtime.NumGoroutine") = false)
  (hL:∀(w0:World) (M:Own),(∀ i,M.pin i=none)->∀ x∈aO body,lB P C w0 M fn.ntmps L x) (hd:d8 fn.ntmps body=true)
  (hpins:fN ins 0=[]) (hres:fn.results=(outs.map (·.1)).toArray) (hk:oX P outs=true)
  (heq:∀ x,dd C L body (λe s=>match e with
   |.exit _=>none
   |.normal=>l5 ins outs s
   |.ret=>l5 ins outs s) { env:=ep ins 0 x,G:=bi ins 0 x }=M x) :
  Con.Holds P C.glob f ⟨ins,outs.map (·.2),M,false⟩:=by
 intro w F us x r hp hM;have hn' : ¬ fn.name = "runtime.NumGoroutine" := by simpa using hn
 refine .inl ⟨by simp[callFunc,hf,hn',hb],?_⟩;refine calls_of_wp hf hb ?_;obtain⟨m0,hw0,hGm,hs⟩:=vp hp fn.ntmps (oL 0 hpins);have hx:=(heq x).trans hM;have hPin:∀ i,(dL ins us) i=none:=by
  intro i;cases hv:dL ins us i with
  |none=>rfl
  |some v=>have:=tV 0 hv;rw[hpins]at this;cases this
 have fin {s':St} {a':Act} {m':Mem} (h1:l5 ins outs s'=some r) (h2:m'.G=s'.G) (h3:Sim C w ⟨di (aG ins us),F,dL ins us,none⟩ fn.ntmps a' m' s'.env) :
   a'.defers=[]/\∃ v,(Go.results fn a'.tmps).run P m'.w=.ok v m'.w/\∃ v',Ending.returned v=.returned v'/\∃ us' F2 css,k9 ins us us'/\PostB w F ins us us' (outs.map (·.2)) r v' m'.w F2 css:=by
  obtain⟨vs,e1,us',F2,css,e0,e2⟩:=GL (P:=P) hp h3 h2 h1 hk;refine⟨h3.defers,eV vs,?_,_,rfl,us',F2,css,e0,e2⟩;have hrun:(Go.results fn a'.tmps).run P m'.w=(((outs.map (·.1)).mapM (nM a')).run P m'.w).andThen λvs w'=>.ok (eV vs) w':=by
   have hf':Go.results fn a'.tmps=(do let vs <- fn.results.mapM (nM a');pure (if h:vs.size=1 then vs[0]else .tuple vs)):=by unfold Go.results;congr 1
   rw[hf',hres];simp only[Array.mapM_eq_mapM_toList,Sem.run_bind,map_eq_pure_bind,bind_assoc,pure_bind,Sem.run_pure];congr 1;funext l w';match l with
   |[]=>rfl
   |[u]=>rfl
   |_::_::_=>simp[eV]
  rw[hrun,e1];rfl
 subst hw0;refine kM (s:={ env:=ep ins 0 x,G:=bi ins 0 x }) hC hD body (hL _ _ hPin) hd hs hGm hx ?_;intro e s' a' m' h1 h2 h3;cases e with
 |normal=>exact fin h1 h2 h3
 |exit i=>simp at h1
 |ret=>exact fin h1 h2 h3
end
end Go.Vm
