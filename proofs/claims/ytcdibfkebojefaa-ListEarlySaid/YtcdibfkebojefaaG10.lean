import Derived.Test.YtcdibfkebojefaaG8
import Derived.Test.YtcdibfkebojefaaW26
import Derived.Test.YtcdibfkebojefaaG7

